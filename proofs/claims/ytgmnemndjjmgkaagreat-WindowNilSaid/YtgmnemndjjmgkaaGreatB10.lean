/- lct: side and hang. -/
import Derived.Test.YtgmnemndjjmgkaaGreatB9
import Derived.Test.YtgmnemndjjmgkaaGreatB8
import Derived.Deep.QuietTactic
import Derived.BigQuiet
set_option linter.unusedSimpArgs false
set_option linter.unusedVariables false
/- The plain model of a window: what is due is taken out, least first. -/
namespace Go.Proofs.YtgmnemndjjmgkaaGreat
open Go.RowKit
set_option maxRecDepth 10000
inductive Mins (to : Int) : (Nat → Option Int) → List Nat → (Nat → Option Int) → Prop
  | done (Q : Nat → Option Int) (h : ∀ i x, Q i = some x → to < x) : Mins to Q [] Q
  | more (Q : Nat → Option Int) (i : Nat) (x : Int) (ds : List Nat) (Q' : Nat → Option Int) (hq : Q i = some x) (hx : x ≤ to) (hm : ∀ j y, Q j = some y → ¬ (y < x ∨ (y = x ∧ j < i)))
      (h : Mins to (fun j => if j = i then none else Q j) ds Q') : Mins to Q (i :: ds) Q'
def Sm.rems (s : Sm) (ds : List Nat) : Sm := ds.foldl Sm.rem s
theorem Sm.rems_cons (s : Sm) (i : Nat) (ds : List Nat) : s.rems (i :: ds) = (s.rem i).rems ds := rfl
theorem lk_used {s : Sm} {Q : Nat → Option Int} {G : Nat → Option (Nat × Nat × Int)} (h : Lk s Q G) (hok : s.Ok) {i : Nat} {x : Int} (hq : Q i = some x) : s.A.isUsed i := by
 obtain ⟨e, he, hs, _⟩ := (h.q i x).1 hq
 exact (hok.used i).2 ⟨e, he, hs⟩
theorem slot_one {L : List Lv} (h : (L.map (·.slot)).Nodup) {e d : Lv} (he : e ∈ L) (hd : d ∈ L) (hs : e.slot = d.slot) : e = d := by
 have h1 := liveAt_mem h he
 have h2 := liveAt_mem h hd
 rw [← h1, ← h2, hs]
theorem rems_keep (s : Sm) : ∀ ds : List Nat, (s.rems ds).V = s.V ∧ (s.rems ds).E = s.E ∧ (s.rems ds).last = s.last := by
 intro ds
 induction ds generalizing s with
 | nil => exact ⟨rfl, rfl, rfl⟩
 | cons i r ih => rw [Sm.rems_cons]; exact ih (s.rem i)
theorem Mins.law {to : Int} {Q Q' : Nat → Option Int} {ds : List Nat} (h : Mins to Q ds Q') : ∀ {s : Sm} {G : Nat → Option (Nat × Nat × Int)}, Lk s Q G → s.Ok →
    (s.rems ds).Ok ∧ (s.rems ds).L = s.L.filter (fun e => decide (to < e.x)) ∧ Lk (s.rems ds) Q' (fun j => if j ∈ ds then none else G j) ∧ ds.length + (s.rems ds).L.length = s.L.length := by
 induction h with
 | done Q h => {
 intro s G hl hok
 have hf : s.L.filter (fun e => decide (to < e.x)) = s.L := List.filter_eq_self.2 fun e he => by simpa using h e.slot e.x ((hl.q _ _).2 ⟨e, he, rfl, rfl⟩)
 refine ⟨hok, hf.symm, ?_, by simp [Sm.rems]⟩
 simpa [Sm.rems] using hl
 }
 | more Q i x ds Q' hq hx hm h ih => {
 intro s G hl hok
 have hu := lk_used hl hok hq
 obtain ⟨d, hd, hds, hdx⟩ := (hl.q i x).1 hq
 have hok1 := Sm.ok_rem hok hu
 obtain ⟨h1, h2, h3, h4⟩ := ih (hl.drop hok i) hok1
 have hL : (s.rem i).L = s.L.filter (fun e => e.slot != i) := rfl
 rw [Sm.rems_cons]
 refine ⟨h1, ?_, ?_, ?_⟩
 {
 rw [h2, hL, List.filter_filter]
 refine List.filter_congr fun e he => ?_
 by_cases hs : e.slot = i
 {
 have : e = d := slot_one hok.one he hd (by omega)
 subst this
 simp [hs]; omega
 }
 · simp [hs]
 }
 {
 have : (fun j => if j ∈ i :: ds then none else G j) = fun j => if j ∈ ds then none else if j = i then none else G j := by {
 funext j
 by_cases e : j = i
 · subst e; simp
 · by_cases e2 : j ∈ ds <;> simp [e, e2]
 }
 rw [this]; exact h3
 }
 {
 have h5 : (s.L.filter fun e => e.slot != i).length + 1 = s.L.length := by {
 have hp : ∀ L : List Lv, (L.map (·.slot)).Nodup → d ∈ L → (L.filter fun e => e.slot != i).length + 1 = L.length := by {
 intro L
 induction L with
 | nil => intro _ h; cases h
 | cons a r ihr => {
 intro hn hm
 simp only [List.map_cons, List.nodup_cons] at hn
 rcases List.mem_cons.1 hm with rfl | hm
 {
 have hr : r.filter (fun e => e.slot != i) = r := List.filter_eq_self.2 fun e he => by
   simp only [bne_iff_ne]; exact fun h => hn.1 (List.mem_map.2 ⟨e, he, by omega⟩)
 rw [List.filter_cons_of_neg (by simp [hds]), hr]; rfl
 }
 {
 have hne : a.slot ≠ i := fun h => hn.1 (List.mem_map.2 ⟨d, hm, by omega⟩)
 rw [List.filter_cons_of_pos (by simpa using hne)]
 simp only [List.length_cons]
 have := ihr hn.2 hm; omega
 }
 }
 }
 exact hp s.L hok.one hd
 }
 rw [hL] at h4
 simp only [List.length_cons]; omega
 }
 }
end Go.Proofs.YtgmnemndjjmgkaaGreat

/- The plain model of a window: there is no less room without some edges. -/
namespace Go.Proofs.YtgmnemndjjmgkaaGreat
open Go.RowKit
set_option maxRecDepth 10000
theorem nodup_sub_len {l m : List Nat} (hl : l.Nodup) (hs : ∀ x ∈ l, x ∈ m) : l.length ≤ m.length := by
 induction l generalizing m with
 | nil => simp
 | cons a r ih => {
 simp only [List.nodup_cons] at hl
 have ha : a ∈ m := hs a (by simp)
 have h1 : r.length ≤ (m.erase a).length := ih hl.2 fun x hx => (List.mem_erase_of_ne (fun e => hl.1 (by rw [← e]; exact hx))).2 (hs x (by simp [hx]))
 rw [List.length_erase_of_mem ha] at h1
 have : 0 < m.length := List.length_pos_of_mem ha
 simp only [List.length_cons]; omega
 }
def withUV (M : Md) (u v : Nat) : List Nat := M.L.map (·.1) ++ [u, v].filter fun x => !(M.find x).isSome
theorem withUV_len (M : Md) (u v : Nat) : (withUV M u v).length = M.L.length + ((if (M.find u).isSome = true then 0 else 1) + if (M.find v).isSome = true then 0 else 1) := by
 unfold withUV
 rw [List.length_append, List.length_map]
 congr 1
 cases hu : (M.find u).isSome <;> cases hv : (M.find v).isSome <;> simp only [List.filter, hu, hv] <;> rfl
theorem mem_ids_find {M : Md} (h : M.Ok) {x : Nat} : x ∈ M.L.map (·.1) ↔ (M.find x).isSome = true := by
 rw [List.mem_map, Option.isSome_iff_exists]
 constructor
 · rintro ⟨⟨a, i⟩, hx, rfl⟩; exact ⟨i, (Md.find_iff h).2 hx⟩
 · rintro ⟨i, hi⟩; exact ⟨(x, i), Md.find_mem hi, rfl⟩
theorem withUV_mem {M : Md} (h : M.Ok) {u v x : Nat} : x ∈ withUV M u v ↔ (M.find x).isSome = true ∨ x = u ∨ x = v := by
 unfold withUV
 rw [List.mem_append, mem_ids_find h]
 simp only [List.mem_filter, List.mem_cons, List.not_mem_nil, or_false, Bool.not_eq_true']
 constructor
 {
 rintro (h | ⟨h, _⟩)
 · exact .inl h
 · exact .inr h
 }
 {
 rintro (h | h)
 · exact .inl h
 {
 by_cases hf : (M.find x).isSome = true
 · exact .inl hf
 · exact .inr ⟨h, by simpa using hf⟩
 }
 }
theorem withUV_nodup {M : Md} (h : M.Ok) {u v : Nat} (hne : u ≠ v) : (withUV M u v).Nodup := by
 unfold withUV
 rw [List.nodup_append]
 refine ⟨h.ids, (List.nodup_cons.2 ⟨by simpa using hne, by simp⟩).filter _, fun a ha b hb e => ?_⟩
 subst e
 rw [mem_ids_find h] at ha
 simp only [List.mem_filter, Bool.not_eq_true'] at hb
 rw [ha] at hb; cases hb.2
theorem chk_less {s s' : Sm} (h : s.Ok) (h' : s'.Ok) (hV : s'.V = s.V) (hE : s'.E = s.E) (hL : ∀ e ∈ s'.L, e ∈ s.L) (hn : s'.L.length ≤ s.L.length) {u v : Nat} (hc : s.chk u v = 0) : s'.chk u v = 0 := by
 obtain ⟨h1, h2, h3⟩ := Sm.chk_ok h hc
 rw [Sm.len_used h] at h2
 have hm : s'.M.L.length + s'.more u v ≤ s.M.L.length + s.more u v := by {
 have e1 := withUV_len s.M u v
 have e2 := withUV_len s'.M u v
 have e3 : (withUV s'.M u v).length ≤ (withUV s.M u v).length := nodup_sub_len (withUV_nodup h'.md h1) fun x hx => by
   rw [withUV_mem h.md]
   rw [withUV_mem h'.md] at hx
   refine hx.imp (fun hx => ?_) id
   rw [h.vert]
   rw [h'.vert] at hx
   obtain ⟨k, hk⟩ := List.exists_mem_of_ne_nil _ hx
   obtain ⟨e, he, hat, _⟩ := mem_incL.1 hk
   exact List.ne_nil_of_mem (mem_incL.2 ⟨e, hL e he, hat, rfl⟩)
 unfold Sm.more
 omega
 }
 unfold Sm.chk
 rw [if_neg h1, Sm.len_used h', hE, hV, if_neg (by omega), if_neg (by omega)]
end Go.Proofs.YtgmnemndjjmgkaaGreat

/- The plain model of a window: its state, a tick, an edge more. -/
namespace Go.Proofs.YtgmnemndjjmgkaaGreat
open Go.RowKit
set_option maxRecDepth 10000
structure Wm where
  m : Int
  E : Nat
  V : Nat
  D : Int
  now : Int
  s : Sm
  Q : Nat → Option Int
  G : Nat → Option (Nat × Nat × Int)
  gone : Nat
structure Wm.Ok (W : Wm) : Prop where
  ok : W.s.Ok
  hV : W.s.V = W.V
  hE : W.s.E = W.E
  lk : Lk W.s W.Q W.G
  x : ∀ e ∈ W.s.L, e.x = e.t + W.m ∧ 0 ≤ e.t ∧ e.t ≤ W.now ∧ W.now < e.x
  mono : W.s.L.Pairwise fun a b => a.t ≤ b.t
  num : ∀ i (h : i < W.s.L.length), (W.s.L[i]).seq = W.gone + i + 1
  last : W.s.last = W.gone + W.s.L.length
  max : W.s.last ≤ 9223372036854775807
  m1 : 1 ≤ W.m
  m2 : W.m ≤ 9223372036854775807
  n0 : 0 ≤ W.now
  n1 : W.now + W.m ≤ 9223372036854775807
theorem filter_drop {L : List Lv} {to : Int} (h : L.Pairwise fun a b => a.x ≤ b.x) : ∃ k, k ≤ L.length ∧ L.filter (fun e => decide (to < e.x)) = L.drop k := by
 induction L with
 | nil => exact ⟨0, by simp, rfl⟩
 | cons a r ih => {
 rw [List.pairwise_cons] at h
 by_cases ha : to < a.x
 {
 refine ⟨0, by simp, ?_⟩
 rw [List.drop_zero]
 refine List.filter_eq_self.2 fun e he => ?_
 rcases List.mem_cons.1 he with rfl | he
 · simpa using ha
 {
 have := h.1 e he
 simp; omega
 }
 }
 {
 obtain ⟨k, hk, e⟩ := ih h.2
 refine ⟨k + 1, by simp; omega, ?_⟩
 rw [List.filter_cons_of_neg (by simpa using ha), e]; rfl
 }
 }
def Wm.tick (W : Wm) (to : Int) (ds : List Nat) (Q' : Nat → Option Int) : Wm := { W with now := to, s := W.s.rems ds, Q := Q', G := fun j => if j ∈ ds then none else W.G j, gone := W.gone + ds.length }
theorem Wm.tick_ok {W : Wm} (h : W.Ok) {to : Int} (h1 : W.now ≤ to) (h2 : to + W.m ≤ 9223372036854775807) {ds : List Nat} {Q' : Nat → Option Int} (hm : Mins to W.Q ds Q') : (W.tick to ds Q').Ok ∧ (W.tick to ds Q').s.L = W.s.L.filter (fun e => decide (to < e.x)) ∧ (W.tick to ds Q').s.last = W.s.last := by
 obtain ⟨k1, k2, k3, k4⟩ := hm.law h.lk h.ok
 obtain ⟨r1, r2, r3⟩ := rems_keep W.s ds
 have hx : W.s.L.Pairwise fun a b => a.x ≤ b.x := by {
 refine List.Pairwise.imp_of_mem ?_ h.mono
 intro a b ha hb hab
 have := h.x a ha; have := h.x b hb; omega
 }
 obtain ⟨k, hk, hf⟩ := filter_drop (to := to) hx
 have hkd : k = ds.length := by rw [k2, hf, List.length_drop] at k4; omega
 refine ⟨⟨k1, r1.trans h.hV, r2.trans h.hE, k3, fun e he => ?_, ?_, fun i hi => ?_, ?_, ?_, h.m1, h.m2, Int.le_trans h.n0 h1, h2⟩, k2, r3⟩
 {
 rw [show (W.tick to ds Q').s.L = _ from k2, List.mem_filter] at he
 have h3 := h.x e he.1
 have h4 : to < e.x := by simpa using he.2
 exact ⟨h3.1, h3.2.1, Int.le_trans h3.2.2.1 h1, h4⟩
 }
 {
 show ((W.s.rems ds).L).Pairwise _
 rw [k2]; exact h.mono.sublist List.filter_sublist
 }
 {
 have hL : (W.s.rems ds).L = W.s.L.drop ds.length := by rw [k2, hf, hkd]
 have hi' : i < (W.s.rems ds).L.length := hi
 have hi2 : ds.length + i < W.s.L.length := by rw [hL, List.length_drop] at hi'; omega
 have e : (W.s.rems ds).L[i]'hi' = W.s.L[ds.length + i]'hi2 := by {
 have h5 : (W.s.rems ds).L[i]? = W.s.L[ds.length + i]? := by rw [hL, List.getElem?_drop]
 rw [List.getElem?_eq_getElem hi', List.getElem?_eq_getElem hi2] at h5
 exact Option.some.inj h5
 }
 show ((W.s.rems ds).L[i]'hi').seq = W.gone + ds.length + i + 1
 rw [e, h.num]; omega
 }
 {
 show (W.s.rems ds).last = W.gone + ds.length + (W.s.rems ds).L.length
 rw [r3, h.last]; omega
 }
 {
 show (W.s.rems ds).last ≤ _
 rw [r3]; exact h.max
 }
def Wm.put (W : Wm) (u v : Nat) (wt : Int) (a b : Nat) : Wm := { W with s := W.s.ins u v wt W.now (W.now + W.m), Q := fun j => if j = W.s.slot then some (W.now + W.m) else W.Q j, G := fun j => if j = W.s.slot then some (a, b, W.now + W.m) else W.G j }
theorem Wm.put_ok {W : Wm} (h : W.Ok) {u v : Nat} (hu : u < 18446744073709551616) (hv : v < 18446744073709551616) (wt : Int) (hc : W.s.chk u v = 0) (hl : W.s.last < 9223372036854775807) {a b : Nat}
    (ha : (W.s.ins u v wt W.now (W.now + W.m)).M.find u = some a) (hb : (W.s.ins u v wt W.now (W.now + W.m)).M.find v = some b) : (W.put u v wt a b).Ok := by
 have hL : (W.put u v wt a b).s.L = W.s.L ++ [W.s.edge u v wt W.now (W.now + W.m)] := rfl
 have hm1 := h.m1
 refine ⟨Sm.ok_ins h.ok hu hv hc (by omega) wt W.now (W.now + W.m), h.hV, h.hE, h.lk.ins h.ok hu hv hc wt W.now (W.now + W.m) ha hb, fun e he => ?_, ?_, fun i hi => ?_, ?_, ?_, h.m1, h.m2, h.n0, h.n1⟩
 {
 rw [hL, List.mem_append, List.mem_singleton] at he
 rcases he with he | rfl
 · exact h.x e he
 · exact ⟨rfl, h.n0, Int.le_refl _, by show W.now < W.now + W.m; omega⟩
 }
 {
 rw [hL, List.pairwise_append]
 exact ⟨h.mono, by simp, fun d hd e he => by
   rw [List.mem_singleton] at he; subst he
   exact (h.x d hd).2.2.1⟩
 }
 {
 have hi' : i < (W.s.L ++ [W.s.edge u v wt W.now (W.now + W.m)]).length := hi
 show ((W.s.L ++ [W.s.edge u v wt W.now (W.now + W.m)])[i]'hi').seq = W.gone + i + 1
 rw [List.getElem_append]
 split
 · exact h.num i _
 {
 have : i = W.s.L.length := by simp at hi'; omega
 subst this
 simp only [Nat.sub_self, List.getElem_singleton]
 show W.s.last + 1 = _
 rw [h.last]
 }
 }
 {
 show W.s.last + 1 = W.gone + (W.s.L ++ [W.s.edge u v wt W.now (W.now + W.m)]).length
 rw [h.last]; simp; omega
 }
 {
 show W.s.last + 1 ≤ _
 omega
 }
def Wm.new (m : Int) (E V : Nat) (D : Int) (gone : Nat) : Wm := { m := m, E := E, V := V, D := D, now := 0, s := Sm.new V E gone, Q := fun _ => none, G := fun _ => none, gone := gone }
theorem Wm.new_ok {m : Int} {E V : Nat} {D : Int} {gone : Nat} (h1 : 1 ≤ m) (h2 : m ≤ 9223372036854775807) (hE : E ≤ 16384) (hV : V ≤ 4096) (hg : gone ≤ 9223372036854775807) : (Wm.new m E V D gone).Ok :=
  ⟨Sm.ok_new hV hE (by omega), rfl, rfl, Lk.new _ _ _, fun e he => (by cases he), List.Pairwise.nil, fun i hi => absurd hi (Nat.not_lt_zero _), rfl, hg, h1, h2, Int.le_refl _, by show 0 + m ≤ _; omega⟩
end Go.Proofs.YtgmnemndjjmgkaaGreat

/- The nodes of a link-cut forest in memory. -/
namespace Go.Proofs.YtgmnemndjjmgkaaGreat
open Go.RowKit
structure Nd where
  k0 : Nat
  k1 : Nat
  up : Nat
  flip : Bool
  key : Int
  size : Int
  first : Nat
  light : Int
  total : Int
def fv (n : Nd) : Nat → Value
  | 0 => .int .i64 n.k0
  | 1 => .int .i64 n.k1
  | 2 => .int .i64 n.up
  | 3 => .bool n.flip
  | 4 => .int .i64 n.key
  | 5 => .int .i64 n.size
  | 6 => .int .i64 n.first
  | 7 => .int .i64 n.light
  | _ => .int .i64 n.total
abbrev Tbl := Nat → Nd
def Tbl.upd (σ : Tbl) (i : Nat) (n : Nd) : Tbl := fun j => if j = i then n else σ j
def NodesAt (w : World) (g N : Nat) (σ : Tbl) : Prop :=
  ∃ arr : Array Value, w.heap[g]? = some (.cells arr 191 (0, 0)) ∧ N * 9 ≤ arr.size ∧ ∀ i, i < N → ∀ f, f < 9 → arr[i * 9 + f]? = some (fv (σ i) f)
theorem NodesAt.cell {w : World} {g N : Nat} {σ : Tbl} (h : NodesAt w g N σ) {i f : Nat} (hi : i < N) (hf : f < 9) : w.cell? ⟨g, i * 9 + f, none⟩ = some (fv (σ i) f) := by
 obtain ⟨arr, h1, _, h2⟩ := h
 simp [World.cell?, h1]; exact h2 i hi f hf
theorem NodesAt.frozen {w : World} {g N : Nat} {σ : Tbl} (h : NodesAt w g N σ) (c : Nat) : w.frozen? ⟨g, c, none⟩ = false := by
 obtain ⟨arr, h1, _⟩ := h
 simp [World.frozen?, h1]
theorem NodesAt.lt {w : World} {g N : Nat} {σ : Tbl} (h : NodesAt w g N σ) : g < w.heap.size := by
 obtain ⟨arr, h1, _⟩ := h; exact (Array.getElem?_eq_some_iff.1 h1).1
theorem NodesAt.same {w w' : World} {g N : Nat} {σ : Tbl} (h : NodesAt w g N σ) (e : w'.heap[g]? = w.heap[g]?) : NodesAt w' g N σ := by
 obtain ⟨arr, h1, r⟩ := h; exact ⟨arr, e.trans h1, r⟩
theorem NodesAt.eqv {w w' : World} {g N : Nat} {σ : Tbl} (h : NodesAt w g N σ) (e : Eqv w' w) : NodesAt w' g N σ := h.same (by rw [e.heap])
theorem NodesAt.congr {w : World} {g N : Nat} {σ τ : Tbl} (h : NodesAt w g N σ) (e : ∀ i, i < N → σ i = τ i) : NodesAt w g N τ := by
 obtain ⟨arr, h1, h2, h3⟩ := h
 exact ⟨arr, h1, h2, fun i hi f hf => by rw [← e i hi]; exact h3 i hi f hf⟩
theorem NodesAt.store {w : World} {g N : Nat} {σ : Tbl} (h : NodesAt w g N σ) {i f : Nat} (hi : i < N) (hf : f < 9) (n : Nd) (v : Value) (hv : fv n f = v) (ho : ∀ f', f' < 9 → f' ≠ f → fv n f' = fv (σ i) f') :
    NodesAt (w.setCell ⟨g, i * 9 + f, none⟩ v) g N (σ.upd i n) := by
 obtain ⟨arr, h1, h2, h3⟩ := h
 refine ⟨arr.setIfInBounds (i * 9 + f) v, ?_, by simpa using h2, fun j hj f' hf' => ?_⟩
 {
 simp only [World.setCell, Array.getElem?_modify]
 simp [h1]
 }
 {
 rw [Array.getElem?_setIfInBounds]
 by_cases e : i * 9 + f = j * 9 + f'
 {
 have e1 : i = j := by omega
 have e2 : f = f' := by omega
 subst e1; subst e2
 rw [if_pos rfl, if_pos (by omega)]
 simp [Tbl.upd, hv]
 }
 {
 rw [if_neg e, h3 j hj f' hf']
 simp only [Tbl.upd]
 by_cases ej : j = i
 · subst ej; rw [if_pos rfl, ho f' hf' (fun e' => e (by omega))]
 · rw [if_neg ej]
 }
 }
section
variable {w : World} {g N : Nat} {σ : Tbl} (h : NodesAt w g N σ)
include h
theorem NodesAt.c0 : ∀ i, i < N → w.cell? ⟨g, i * 9, none⟩ = some (.int .i64 (σ i).k0) := fun i hi => h.cell (f := 0) hi (by decide)
theorem NodesAt.c1 : ∀ i, i < N → w.cell? ⟨g, i * 9 + 1, none⟩ = some (.int .i64 (σ i).k1) := fun i hi => h.cell (f := 1) hi (by decide)
theorem NodesAt.c2 : ∀ i, i < N → w.cell? ⟨g, i * 9 + 2, none⟩ = some (.int .i64 (σ i).up) := fun i hi => h.cell (f := 2) hi (by decide)
theorem NodesAt.c3 : ∀ i, i < N → w.cell? ⟨g, i * 9 + 3, none⟩ = some (.bool (σ i).flip) := fun i hi => h.cell (f := 3) hi (by decide)
theorem NodesAt.c4 : ∀ i, i < N → w.cell? ⟨g, i * 9 + 4, none⟩ = some (.int .i64 (σ i).key) := fun i hi => h.cell (f := 4) hi (by decide)
theorem NodesAt.c5 : ∀ i, i < N → w.cell? ⟨g, i * 9 + 5, none⟩ = some (.int .i64 (σ i).size) := fun i hi => h.cell (f := 5) hi (by decide)
theorem NodesAt.c6 : ∀ i, i < N → w.cell? ⟨g, i * 9 + 6, none⟩ = some (.int .i64 (σ i).first) := fun i hi => h.cell (f := 6) hi (by decide)
theorem NodesAt.c7 : ∀ i, i < N → w.cell? ⟨g, i * 9 + 7, none⟩ = some (.int .i64 (σ i).light) := fun i hi => h.cell (f := 7) hi (by decide)
theorem NodesAt.c8 : ∀ i, i < N → w.cell? ⟨g, i * 9 + 8, none⟩ = some (.int .i64 (σ i).total) := fun i hi => h.cell (f := 8) hi (by decide)
end
structure LctAt (w : World) (pf g N : Nat) (cap : Nat) (σ : Tbl) (edges : Int) : Prop where
  hd : Blk w pf 194 [.pointer (some ⟨pf, 0, none⟩), .slice (some ⟨g, 0, none⟩) N cap, .int .i64 edges]
  nodes : NodesAt w g N σ
  ne : pf ≠ g
  le : N ≤ 65537
  cap : N ≤ cap
def beforeB (σ : Tbl) (i j : Nat) : Bool := decide ((σ i).key < (σ j).key) || (decide ((σ i).key = (σ j).key) && decide (i < j))
set_option maxRecDepth 10000
set_option maxHeartbeats 400000
theorem before_w {w : World} {pf g N cap : Nat} {σ : Tbl} {ed : Int} (h : LctAt w pf g N cap σ ed) (i j : Nat) (hi : i < N) (hj : j < N) :
    Calls Tryz.prog 203 #[.pointer (some ⟨pf, 0, none⟩), .int .i64 i, .int .i64 j] w fun e w' => e = .returned (.bool (beforeB σ i j)) ∧ ∃ n, w' = w.drewN n := by
 have c1 := h.hd.cell 1
 simp only [List.getElem?_cons_zero, List.getElem?_cons_succ] at c1
 have ci := h.nodes.c4 i hi
 have cj := h.nodes.c4 j hj
 have hN := h.le
 have hi2 : (i : Int) < N := by omega
 have hj2 : (j : Int) < N := by omega
 by_cases h1 : (σ i).key < (σ j).key
 {
 have d1 : decide ((σ i).key < (σ j).key) = true := decide_eq_true h1
 have hr : beforeB σ i j = true := by simp [beforeB, h1]
 rw [hr]; clear hr
 go_enter Tryz.func203, Tryz.ntmps203
 go_wp2
 go_quiet (fail)
 go_wp2
 go_ret
 exact ⟨rfl, _, rfl⟩
 }
 {
 have d1 : decide ((σ i).key < (σ j).key) = false := decide_eq_false h1
 by_cases h2 : (σ i).key = (σ j).key
 {
 have d2 : ((σ i).key == (σ j).key) = true := beq_iff_eq.2 h2
 have hr : beforeB σ i j = decide (i < j) := by simp [beforeB, h2]
 rw [hr]; clear hr
 have H2 := Lib.hid h2; clear h2
 by_cases h3 : i < j
 {
 have d3 : decide ((i : Int) < (j : Int)) = true := decide_eq_true (by omega)
 have d4 : decide (i < j) = true := decide_eq_true h3
 rw [d4]; clear d4
 go_enter Tryz.func203, Tryz.ntmps203
 go_wp2
 go_quiet (fail)
 go_wp2
 go_ret
 exact ⟨rfl, _, rfl⟩
 }
 {
 have d3 : decide ((i : Int) < (j : Int)) = false := decide_eq_false (by omega)
 have d4 : decide (i < j) = false := decide_eq_false h3
 rw [d4]; clear d4
 go_enter Tryz.func203, Tryz.ntmps203
 go_wp2
 go_quiet (fail)
 go_wp2
 go_ret
 exact ⟨rfl, _, rfl⟩
 }
 }
 {
 have d2 : ((σ i).key == (σ j).key) = false := beq_eq_false_iff_ne.2 h2
 have hr : beforeB σ i j = false := by simp [beforeB, h1, h2]
 rw [hr]; clear hr
 have H2 := Lib.hid h2; clear h2
 go_enter Tryz.func203, Tryz.ntmps203
 go_wp2
 go_quiet (fail)
 go_wp2
 go_ret
 exact ⟨rfl, _, rfl⟩
 }
 }
end Go.Proofs.YtgmnemndjjmgkaaGreat

/- lct: refresh. -/
namespace Go.Proofs.YtgmnemndjjmgkaaGreat
open Go.RowKit
def refKid (σ : Tbl) (i k : Nat) : Tbl :=
  if k = 0 then σ else
    let σ1 := σ.upd i { σ i with size := wrap64 ((σ i).size + (σ k).size) }
    let σ2 := σ1.upd i { σ1 i with total := wrap64 ((σ1 i).total + (σ1 k).total) }
    if beforeB σ2 (σ2 k).first (σ2 i).first then σ2.upd i { σ2 i with first := (σ2 k).first } else σ2
def ref0 (σ : Tbl) (i : Nat) : Tbl := σ.upd i { σ i with size := 1, first := i, total := wrap64 (1 + (σ i).light) }
def refT (σ : Tbl) (i : Nat) : Nat → Tbl
  | 0 => ref0 σ i
  | 1 => refKid (ref0 σ i) i (σ i).k0
  | _ => refKid (refKid (ref0 σ i) i (σ i).k0) i (σ i).k1
def refresh (σ : Tbl) (i : Nat) : Tbl := refT σ i 2
theorem upd_same (σ : Tbl) (i : Nat) (n : Nd) : σ.upd i n i = n := by simp [Tbl.upd]
theorem upd_other {σ : Tbl} {i j : Nat} {n : Nd} (h : j ≠ i) : σ.upd i n j = σ j := by simp [Tbl.upd, h]
def InR (N : Nat) (σ : Tbl) : Prop := ∀ i, i < N → (σ i).k0 < N ∧ (σ i).k1 < N ∧ (σ i).up < N ∧ (σ i).first < N
theorem refKid_other {σ : Tbl} {i k j : Nat} (h : j ≠ i) : refKid σ i k j = σ j := by
 unfold refKid
 by_cases hk : k = 0
 · rw [if_pos hk]
 · rw [if_neg hk]; dsimp only; split <;> simp [upd_other h]
theorem refKid_links {σ : Tbl} {i k j : Nat} : (refKid σ i k j).k0 = (σ j).k0 ∧ (refKid σ i k j).k1 = (σ j).k1 ∧ (refKid σ i k j).up = (σ j).up ∧ (refKid σ i k j).flip = (σ j).flip ∧ (refKid σ i k j).key = (σ j).key ∧ (refKid σ i k j).light = (σ j).light := by
 by_cases h : j = i
 {
 subst h
 unfold refKid
 by_cases hk : k = 0
 · rw [if_pos hk]; simp
 · rw [if_neg hk]; dsimp only; split <;> simp [upd_same]
 }
 · rw [refKid_other h]; simp
theorem refKid_inR {N : Nat} {σ : Tbl} {i k : Nat} (h : InR N σ) (hi : i < N) (hk : k < N) (hki : k ≠ i) : InR N (refKid σ i k) := by
 intro j hj
 obtain ⟨a, b, c, _⟩ := @refKid_links σ i k j
 rw [a, b, c]
 refine ⟨(h j hj).1, (h j hj).2.1, (h j hj).2.2.1, ?_⟩
 by_cases e : j = i
 {
 subst e
 unfold refKid
 by_cases hk0 : k = 0
 · rw [if_pos hk0]; exact (h j hj).2.2.2
 {
 rw [if_neg hk0]; dsimp only; split
 · simp [upd_same, upd_other hki]; exact (h k hk).2.2.2
 · simp [upd_same]; exact (h j hj).2.2.2
 }
 }
 · rw [refKid_other e]; exact (h j hj).2.2.2
theorem ref0_inR {N : Nat} {σ : Tbl} {i : Nat} (h : InR N σ) (hi : i < N) : InR N (ref0 σ i) := by
 intro j hj
 by_cases e : j = i
 · subst e; simp only [ref0, upd_same]; exact ⟨(h j hj).1, (h j hj).2.1, (h j hj).2.2.1, hi⟩
 · simp only [ref0, upd_other e]; exact h j hj
theorem refT_inR {N : Nat} {σ : Tbl} {i : Nat} (h : InR N σ) (hi : i < N) (h0 : (σ i).k0 ≠ i) (h1 : (σ i).k1 ≠ i) (t : Nat) : InR N (refT σ i t) := by
 match t with
 | 0 => exact ref0_inR h hi
 | 1 => exact refKid_inR (ref0_inR h hi) hi (h i hi).1 h0
 | t + 2 => exact refKid_inR (refKid_inR (ref0_inR h hi) hi (h i hi).1 h0) hi (h i hi).2.1 h1
theorem LctAt.store {w w0 : World} {pf g N cap : Nat} {σ : Tbl} {ed : Int} (h : LctAt w pf g N cap σ ed) (hF : Fr [g] w0 w) {i f : Nat} (hi : i < N) (hf : f < 9) (n : Nd) (v : Value) (hv : fv n f = v) (ho : ∀ f', f' < 9 → f' ≠ f → fv n f' = fv (σ i) f') :
    LctAt (w.setCell ⟨g, i * 9 + f, none⟩ v) pf g N cap (σ.upd i n) ed ∧ Fr [g] w0 (w.setCell ⟨g, i * 9 + f, none⟩ v) :=
  ⟨⟨h.hd.other _ _ h.ne, h.nodes.store hi hf n v hv ho, h.ne, h.le, h.cap⟩, hF.setCell _ _ (.inl (by simp))⟩
theorem LctAt.eqv {w w' : World} {pf g N cap : Nat} {σ : Tbl} {ed : Int} (h : LctAt w pf g N cap σ ed) (e : Eqv w' w) : LctAt w' pf g N cap σ ed :=
  ⟨e.blk h.hd, h.nodes.eqv e, h.ne, h.le, h.cap⟩
section
variable {w w0 : World} {pf g N cap : Nat} {σ : Tbl} {ed : Int} (h : LctAt w pf g N cap σ ed) (hF : Fr [g] w0 w) {i : Nat} (hi : i < N)
include h hF hi
theorem LctAt.st0 (x : Nat) : LctAt (w.setCell ⟨g, i * 9, none⟩ (.int .i64 x)) pf g N cap (σ.upd i { σ i with k0 := x }) ed ∧ Fr [g] w0 (w.setCell ⟨g, i * 9, none⟩ (.int .i64 x)) :=
  h.store hF hi (f := 0) (by decide) _ _ rfl (by intro f' h1 h2; match f', h1, h2 with | 1, _, _ => rfl | 2, _, _ => rfl | 3, _, _ => rfl | 4, _, _ => rfl | 5, _, _ => rfl | 6, _, _ => rfl | 7, _, _ => rfl | _ + 8, _, _ => rfl)
theorem LctAt.st1 (x : Nat) : LctAt (w.setCell ⟨g, i * 9 + 1, none⟩ (.int .i64 x)) pf g N cap (σ.upd i { σ i with k1 := x }) ed ∧ Fr [g] w0 (w.setCell ⟨g, i * 9 + 1, none⟩ (.int .i64 x)) :=
  h.store hF hi (f := 1) (by decide) _ _ rfl (by intro f' h1 h2; match f', h1, h2 with | 0, _, _ => rfl | 2, _, _ => rfl | 3, _, _ => rfl | 4, _, _ => rfl | 5, _, _ => rfl | 6, _, _ => rfl | 7, _, _ => rfl | _ + 8, _, _ => rfl)
theorem LctAt.st2 (x : Nat) : LctAt (w.setCell ⟨g, i * 9 + 2, none⟩ (.int .i64 x)) pf g N cap (σ.upd i { σ i with up := x }) ed ∧ Fr [g] w0 (w.setCell ⟨g, i * 9 + 2, none⟩ (.int .i64 x)) :=
  h.store hF hi (f := 2) (by decide) _ _ rfl (by intro f' h1 h2; match f', h1, h2 with | 0, _, _ => rfl | 1, _, _ => rfl | 3, _, _ => rfl | 4, _, _ => rfl | 5, _, _ => rfl | 6, _, _ => rfl | 7, _, _ => rfl | _ + 8, _, _ => rfl)
theorem LctAt.st3 (x : Bool) : LctAt (w.setCell ⟨g, i * 9 + 3, none⟩ (.bool x)) pf g N cap (σ.upd i { σ i with flip := x }) ed ∧ Fr [g] w0 (w.setCell ⟨g, i * 9 + 3, none⟩ (.bool x)) :=
  h.store hF hi (f := 3) (by decide) _ _ rfl (by intro f' h1 h2; match f', h1, h2 with | 0, _, _ => rfl | 1, _, _ => rfl | 2, _, _ => rfl | 4, _, _ => rfl | 5, _, _ => rfl | 6, _, _ => rfl | 7, _, _ => rfl | _ + 8, _, _ => rfl)
theorem LctAt.st4 (x : Int) : LctAt (w.setCell ⟨g, i * 9 + 4, none⟩ (.int .i64 x)) pf g N cap (σ.upd i { σ i with key := x }) ed ∧ Fr [g] w0 (w.setCell ⟨g, i * 9 + 4, none⟩ (.int .i64 x)) :=
  h.store hF hi (f := 4) (by decide) _ _ rfl (by intro f' h1 h2; match f', h1, h2 with | 0, _, _ => rfl | 1, _, _ => rfl | 2, _, _ => rfl | 3, _, _ => rfl | 5, _, _ => rfl | 6, _, _ => rfl | 7, _, _ => rfl | _ + 8, _, _ => rfl)
theorem LctAt.st5 (x : Int) : LctAt (w.setCell ⟨g, i * 9 + 5, none⟩ (.int .i64 x)) pf g N cap (σ.upd i { σ i with size := x }) ed ∧ Fr [g] w0 (w.setCell ⟨g, i * 9 + 5, none⟩ (.int .i64 x)) :=
  h.store hF hi (f := 5) (by decide) _ _ rfl (by intro f' h1 h2; match f', h1, h2 with | 0, _, _ => rfl | 1, _, _ => rfl | 2, _, _ => rfl | 3, _, _ => rfl | 4, _, _ => rfl | 6, _, _ => rfl | 7, _, _ => rfl | _ + 8, _, _ => rfl)
theorem LctAt.st6 (x : Nat) : LctAt (w.setCell ⟨g, i * 9 + 6, none⟩ (.int .i64 x)) pf g N cap (σ.upd i { σ i with first := x }) ed ∧ Fr [g] w0 (w.setCell ⟨g, i * 9 + 6, none⟩ (.int .i64 x)) :=
  h.store hF hi (f := 6) (by decide) _ _ rfl (by intro f' h1 h2; match f', h1, h2 with | 0, _, _ => rfl | 1, _, _ => rfl | 2, _, _ => rfl | 3, _, _ => rfl | 4, _, _ => rfl | 5, _, _ => rfl | 7, _, _ => rfl | _ + 8, _, _ => rfl)
theorem LctAt.st7 (x : Int) : LctAt (w.setCell ⟨g, i * 9 + 7, none⟩ (.int .i64 x)) pf g N cap (σ.upd i { σ i with light := x }) ed ∧ Fr [g] w0 (w.setCell ⟨g, i * 9 + 7, none⟩ (.int .i64 x)) :=
  h.store hF hi (f := 7) (by decide) _ _ rfl (by intro f' h1 h2; match f', h1, h2 with | 0, _, _ => rfl | 1, _, _ => rfl | 2, _, _ => rfl | 3, _, _ => rfl | 4, _, _ => rfl | 5, _, _ => rfl | 6, _, _ => rfl | _ + 8, _, _ => rfl)
theorem LctAt.st8 (x : Int) : LctAt (w.setCell ⟨g, i * 9 + 8, none⟩ (.int .i64 x)) pf g N cap (σ.upd i { σ i with total := x }) ed ∧ Fr [g] w0 (w.setCell ⟨g, i * 9 + 8, none⟩ (.int .i64 x)) :=
  h.store hF hi (f := 8) (by decide) _ _ rfl (by intro f' h1 h2; match f', h1, h2 with | 0, _, _ => rfl | 1, _, _ => rfl | 2, _, _ => rfl | 3, _, _ => rfl | 4, _, _ => rfl | 5, _, _ => rfl | 6, _, _ => rfl | 7, _, _ => rfl | m + 8, h1, h2 => exact absurd (show m + 8 = 8 by omega) h2)
end
set_option maxRecDepth 10000
set_option maxHeartbeats 400000
theorem idx_kids0 (x y : Value) (w : World) : (Instr.index 189 (.agg #[x, y]) (.int .i64 0)).run Tryz.prog w = .ok x w := by kernel_rfl
theorem idx_kids1 (x y : Value) (w : World) : (Instr.index 189 (.agg #[x, y]) (.int .i64 1)).run Tryz.prog w = .ok y w := by kernel_rfl
theorem ref0_mem {w : World} {pf g N cap : Nat} {σ : Tbl} {ed : Int} (h : LctAt w pf g N cap σ ed) {i : Nat} (hi : i < N) :
    LctAt (((w.setCell ⟨g, i * 9 + 5, none⟩ (.int .i64 1)).setCell ⟨g, i * 9 + 6, none⟩ (.int .i64 i)).setCell ⟨g, i * 9 + 8, none⟩ (.int .i64 (wrap64 (1 + (σ i).light)))) pf g N cap (ref0 σ i) ed ∧
      Fr [g] w (((w.setCell ⟨g, i * 9 + 5, none⟩ (.int .i64 1)).setCell ⟨g, i * 9 + 6, none⟩ (.int .i64 i)).setCell ⟨g, i * 9 + 8, none⟩ (.int .i64 (wrap64 (1 + (σ i).light)))) := by
 obtain ⟨h1, f1⟩ := h.st5 (Fr.refl _ _) hi 1
 obtain ⟨h2, f2⟩ := h1.st6 f1 hi i
 obtain ⟨h3, f3⟩ := h2.st8 f2 hi (wrap64 (1 + (σ i).light))
 refine ⟨⟨h3.hd, h3.nodes.congr ?_, h3.ne, h3.le, h3.cap⟩, f3⟩
 intro j _
 by_cases e : j = i
 · subst e; simp [ref0, upd_same]
 · simp [ref0, upd_other e]
theorem iw64 (n : Int) : IntKind.i64.wrap n = wrap64 n := by rw [IntKind.wrap_i64]; unfold wrap64; omega
theorem refresh_w {w : World} {pf g N cap : Nat} {σ : Tbl} {ed : Int} (h : LctAt w pf g N cap σ ed) (i : Nat) (hi : i < N) (hR : InR N σ) (h0 : (σ i).k0 ≠ i) (h1 : (σ i).k1 ≠ i) :
    Calls Tryz.prog 174 #[.pointer (some ⟨pf, 0, none⟩), .int .i64 i] w fun e w' => e = .returned (.tuple #[]) ∧ LctAt w' pf g N cap (refresh σ i) ed ∧ Fr [g] w w' := by
 have c1 := h.hd.cell 1
 simp only [List.getElem?_cons_zero, List.getElem?_cons_succ] at c1
 have hN := h.le
 have a0 := h.nodes.c0 i hi
 have a1 := h.nodes.c1 i hi
 have a5 := h.nodes.c5 i hi
 have a6 := h.nodes.c6 i hi
 have a7 := h.nodes.c7 i hi
 have a8 := h.nodes.c8 i hi
 have hfz := h.nodes.frozen
 have hi2 : (i : Int) < N := by omega
 obtain ⟨hm0, hf0⟩ := ref0_mem h hi
 have HR := Lib.hid hR; clear hR
 have H0 := Lib.hid h0; clear h0
 have H1 := Lib.hid h1; clear h1
 go_enter Tryz.func174, Tryz.ntmps174
 go_wp2
 generalize hW : (((w.setCell ⟨g, i * 9 + 5, none⟩ (.int .i64 1)).setCell ⟨g, i * 9 + 6, none⟩ (.int .i64 i)).setCell ⟨g, i * 9 + 8, none⟩ (.int .i64 (wrap64 (1 + (σ i).light)))) = W0 at *
 clear hW a0 a1 a5 a6 a7 a8 hfz c1
 go_loopw [33] (fun x wr => ∃ t : Nat, t ≤ 2 ∧ x = .int .i64 t ∧ LctAt wr pf g N cap (refT σ i t) ed ∧ Fr [g] w wr) (fun x _ => 2 - (intOf x).toNat)
 case atStart => exact ⟨0, by omega, rfl, hm0, hf0⟩
 case round =>
  clear hm0 hf0
  obtain ⟨t, ht, rfl, hL, hF⟩ := hrel
  by_cases hlt : t < 2
  {
  have hInR := refT_inR HR.out hi H0.out H1.out t
  obtain ⟨k, hix, hkN, hki, hnx⟩ : ∃ k : Nat, (∀ W : World, (Instr.index 189 (.agg #[.int .i64 (σ i).k0, .int .i64 (σ i).k1]) (.int .i64 t)).run Tryz.prog W = .ok (.int .i64 k) W) ∧ k < N ∧ k ≠ i ∧ refT σ i (t + 1) = refKid (refT σ i t) i k := by {
  rcases (show t = 0 ∨ t = 1 by omega) with rfl | rfl
  · exact ⟨(σ i).k0, fun W => idx_kids0 _ _ W, (HR.out i hi).1, H0.out, rfl⟩
  · exact ⟨(σ i).k1, fun W => idx_kids1 _ _ W, (HR.out i hi).2.1, H1.out, rfl⟩
  }
  have Hnx := Lib.hid hnx; clear hnx
  have HIn := Lib.hid hInR; clear hInR
  generalize refT σ i t = τ at *
  by_cases hk0 : k = 0
  {
  subst hk0
  go_wp2
  go_roundw
  case rel => exact ⟨t + 1, by omega, by go_num, by rw [Hnx.out]; exact hL, hF⟩
  case measure => simp [intOf]; omega
  }
  {
  have hb0 : ((k : Int) == 0) = false := beq_eq_false_iff_ne.2 (by omega)
  have hk2 : (k : Int) < N := by omega
  have c1 := hL.hd.cell 1
  simp only [List.getElem?_cons_zero, List.getElem?_cons_succ] at c1
  have a5 := hL.nodes.c5 i hi
  have b5 := hL.nodes.c5 k hkN
  have hfz := hL.nodes.frozen
  go_wp2
  refine region_one 11 (fun w' => LctAt w' pf g N cap (τ.upd i { τ i with size := wrap64 ((τ i).size + (τ k).size) }) ed ∧ Fr [g] w w') (by kernel_rfl) (by kernel_rfl) (by kernel_rfl) ?_
  iterate 11 (refine gWalk_pre (by decide) (fun K hK => ?_); go_simp; refine hK _ ?_; clear hK K)
  refine gWalk_write rfl undef (fun w' hw' => ?_) ?_
  {
  obtain ⟨nq, rfl⟩ := hw'
  go_simp
  rw [iw64]
  exact (hL.eqv (Eqv.drewN wr nq)).st5 (hF.drewN nq) hi _
  }
  refine gWalk_nil ?_
  rintro w2 ⟨hL2, hF2⟩
  have hk1 : τ.upd i { τ i with size := wrap64 ((τ i).size + (τ k).size) } k = τ k := upd_other hki
  have c1' := hL2.hd.cell 1
  simp only [List.getElem?_cons_zero, List.getElem?_cons_succ] at c1'
  have a8 := hL2.nodes.c8 i hi
  have b8 := hL2.nodes.c8 k hkN
  rw [hk1] at b8
  rw [upd_same] at a8
  have hfz2 := hL2.nodes.frozen
  clear a5 b5 hfz c1 hk1
  go_wp2
  refine region_one 11 (fun w' => LctAt w' pf g N cap ((τ.upd i { τ i with size := wrap64 ((τ i).size + (τ k).size) }).upd i { τ i with size := wrap64 ((τ i).size + (τ k).size), total := wrap64 ((τ i).total + (τ k).total) }) ed ∧ Fr [g] w w') (by kernel_rfl) (by kernel_rfl) (by kernel_rfl) ?_
  iterate 11 (refine gWalk_pre (by decide) (fun K hK => ?_); go_simp; refine hK _ ?_; clear hK K)
  refine gWalk_write rfl undef (fun w' hw' => ?_) ?_
  {
  obtain ⟨nq, rfl⟩ := hw'
  go_simp
  have := (hL2.eqv (Eqv.drewN w2 nq)).st8 (hF2.drewN nq) hi (wrap64 ((τ i).total + (τ k).total))
  rw [upd_same] at this
  rw [iw64]
  exact this
  }
  refine gWalk_nil ?_
  rintro w3 ⟨hL3, hF3⟩
  clear a8 b8 hfz2 c1' hL hL2 hF hF2
  have hns : refKid τ i k = if beforeB ((τ.upd i { τ i with size := wrap64 ((τ i).size + (τ k).size) }).upd i { τ i with size := wrap64 ((τ i).size + (τ k).size), total := wrap64 ((τ i).total + (τ k).total) }) (τ k).first (τ i).first then ((τ.upd i { τ i with size := wrap64 ((τ i).size + (τ k).size) }).upd i { τ i with size := wrap64 ((τ i).size + (τ k).size), total := wrap64 ((τ i).total + (τ k).total) }).upd i { τ i with size := wrap64 ((τ i).size + (τ k).size), total := wrap64 ((τ i).total + (τ k).total), first := (τ k).first } else ((τ.upd i { τ i with size := wrap64 ((τ i).size + (τ k).size) }).upd i { τ i with size := wrap64 ((τ i).size + (τ k).size), total := wrap64 ((τ i).total + (τ k).total) }) := by {
  unfold refKid
  rw [if_neg hk0]
  simp only [upd_same, upd_other hki]
  }
  have Hns := Lib.hid hns; clear hns
  have c6 := hL3.nodes.c6 i hi
  have d6 := hL3.nodes.c6 k hkN
  have hk1 : ((τ.upd i { τ i with size := wrap64 ((τ i).size + (τ k).size) }).upd i { τ i with size := wrap64 ((τ i).size + (τ k).size), total := wrap64 ((τ i).total + (τ k).total) }) k = τ k := by rw [upd_other hki, upd_other hki]
  have hi1 : ((τ.upd i { τ i with size := wrap64 ((τ i).size + (τ k).size) }).upd i { τ i with size := wrap64 ((τ i).size + (τ k).size), total := wrap64 ((τ i).total + (τ k).total) }) i = { τ i with size := wrap64 ((τ i).size + (τ k).size), total := wrap64 ((τ i).total + (τ k).total) } := upd_same _ _ _
  rw [hi1] at c6
  rw [hk1] at d6
  have hst := fun nq : Nat => (hL3.eqv (Eqv.drewN w3 nq)).st6 (hF3.drewN nq) hi (τ k).first
  rw [hi1] at hst
  generalize ((τ.upd i { τ i with size := wrap64 ((τ i).size + (τ k).size) }).upd i { τ i with size := wrap64 ((τ i).size + (τ k).size), total := wrap64 ((τ i).total + (τ k).total) }) = τ2 at *
  have hbf := fun W (hW : LctAt W pf g N cap τ2 ed) => before_w hW (τ k).first (τ i).first (HIn.out k hkN).2.2.2 (HIn.out i hi).2.2.2
  have Hbf := Lib.hid hbf; clear hbf hk1 hi1
  have hfz3 := hL3.nodes.frozen
  have Hst := Lib.hid hst; clear hst
  dsimp only at c6
  cases hB : beforeB τ2 (τ k).first (τ i).first with
  | true => {
  rw [hB] at Hbf Hns
  clear hB
  go_wp2
  go_quiet ((go_at_call 203; exact Calls.quiet_of (Hbf.out _ (hL3.eqv (Eqv.drewN _ _)))))
  go_wp2
  exact ⟨⟨t + 1, by omega, by go_num, by rw [Hnx.out, Hns.out, if_pos trivial]; exact (Hst.out nq).1, (Hst.out nq).2⟩, by simp [intOf]; omega⟩
  }
  | false => {
  rw [hB] at Hbf Hns
  clear hB
  go_wp2
  go_quiet ((go_at_call 203; exact Calls.quiet_of (Hbf.out _ (hL3.eqv (Eqv.drewN _ _)))))
  go_wp2
  exact ⟨⟨t + 1, by omega, by go_num, by rw [Hnx.out, Hns.out, if_neg (by decide)]; exact hL3.eqv (Eqv.drewN w3 nq), hF3.drewN nq⟩, by simp [intOf]; omega⟩
  }
  }
  }
  {
  obtain rfl : t = 2 := by omega
  go_wp2
  go_end0
  exact ⟨rfl, hL, hF⟩
  }
end Go.Proofs.YtgmnemndjjmgkaaGreat

/- lct: push. -/
namespace Go.Proofs.YtgmnemndjjmgkaaGreat
open Go.RowKit
def pushK (σ : Tbl) (k : Nat) : Tbl := if k = 0 then σ else σ.upd k { σ k with flip := !(σ k).flip }
def push0 (σ : Tbl) (i : Nat) : Tbl := σ.upd i { σ i with flip := false, k0 := (σ i).k1, k1 := (σ i).k0 }
def pushT (σ : Tbl) (i : Nat) : Nat → Tbl
  | 0 => push0 σ i
  | 1 => pushK (push0 σ i) (σ i).k1
  | _ => pushK (pushK (push0 σ i) (σ i).k1) (σ i).k0
def push (σ : Tbl) (i : Nat) : Tbl := if (σ i).flip then pushT σ i 2 else σ
set_option maxRecDepth 10000
set_option maxHeartbeats 400000
theorem LctAt.congr {w : World} {pf g N cap : Nat} {σ τ : Tbl} {ed : Int} (h : LctAt w pf g N cap σ ed) (e : ∀ i, σ i = τ i) : LctAt w pf g N cap τ ed := by
 have : σ = τ := funext e
 rw [← this]; exact h
theorem push_w {w : World} {pf g N cap : Nat} {σ : Tbl} {ed : Int} (h : LctAt w pf g N cap σ ed) (i : Nat) (hi : i < N) (hR : InR N σ) :
    Calls Tryz.prog 201 #[.pointer (some ⟨pf, 0, none⟩), .int .i64 i] w fun e w' => e = .returned (.tuple #[]) ∧ LctAt w' pf g N cap (push σ i) ed ∧ Fr [g] w w' := by
 have c1 := h.hd.cell 1
 simp only [List.getElem?_cons_zero, List.getElem?_cons_succ] at c1
 have hN := h.le
 have a3 := h.nodes.c3 i hi
 have hfz := h.nodes.frozen
 have hi2 : (i : Int) < N := by omega
 have HR := Lib.hid hR; clear hR
 by_cases hfl : (σ i).flip = true
 {
 have hp : push σ i = pushT σ i 2 := by unfold push; rw [if_pos hfl]
 have Hp := Lib.hid hp; clear hp
 rw [hfl] at a3
 have Hfl := Lib.hid hfl; clear hfl
 obtain ⟨h1, f1⟩ := h.st3 (Fr.refl _ _) hi false
 go_enter Tryz.func201, Tryz.ntmps201
 go_wp2
 generalize hW : w.setCell ⟨g, i * 9 + 3, none⟩ (.bool false) = W0 at *
 clear hW a3 c1 hfz
 have a0 := h1.nodes.c0 i hi
 have a1 := h1.nodes.c1 i hi
 rw [upd_same] at a0 a1
 dsimp only at a0 a1
 have hfz := h1.nodes.frozen
 have c1 := h1.hd.cell 1
 simp only [List.getElem?_cons_zero, List.getElem?_cons_succ] at c1
 refine region_many [15, 19] [1] (fun q w' => match q with
   | 0 => ∃ n, w' = W0.drewN n
   | 1 => LctAt w' pf g N cap ((σ.upd i { σ i with flip := false }).upd i { σ i with flip := false, k0 := (σ i).k1 }) ed ∧ Fr [g] w w'
   | _ => LctAt w' pf g N cap (push0 σ i) ed ∧ Fr [g] w w') (fun w' => Iff.rfl) (by kernel_rfl) (by kernel_rfl) (by kernel_rfl) ?_
 refine mWalk_pre (by decide) (fun K hK => ?_); go_simp; refine hK _ ?_; clear hK K
 refine mWalk_post (by decide) (fun K hK => ?_); go_simp; refine hK _ ?_; clear hK K
 iterate 13 (refine mWalk_pre (by decide) (fun K hK => ?_); go_simp; refine hK _ ?_; clear hK K)
 refine mWalk_write (q := 0) (by decide) rfl undef (fun w' hw' => ?_) ?_
 {
 obtain ⟨nq, rfl⟩ := hw'
 go_simp
 have := (h1.eqv (Eqv.drewN W0 nq)).st0 (f1.drewN nq) hi (σ i).k1
 rw [upd_same] at this
 exact this
 }
 iterate 3 (refine mWalk_post (by decide) (fun K hK => ?_); go_simp; refine hK _ ?_; clear hK K)
 refine mWalk_write (q := 1) (by decide) rfl undef (fun w' hw' => ?_) ?_
 {
 obtain ⟨hA, hB⟩ := hw'
 have hfz' := hA.nodes.frozen
 have b1 := hA.nodes.c1 i hi
 go_simp
 have := hA.st1 hB hi (σ i).k0
 rw [upd_same] at this
 refine ⟨this.1.congr ?_, this.2⟩
 intro j
 by_cases e : j = i
 · subst e; simp [push0, upd_same]
 · simp [push0, upd_other e]
 }
 refine mWalk_nil ?_
 rintro w2 ⟨h2, f2⟩
 clear a0 a1 hfz c1 h1 f1
 have a0 := h2.nodes.c0 i hi
 have a1 := h2.nodes.c1 i hi
 simp only [push0, upd_same] at a0 a1
 go_wp2
 clear a0 a1
 go_loopw [43] (fun x wr => ∃ t : Nat, t ≤ 2 ∧ x = .int .i64 t ∧ LctAt wr pf g N cap (pushT σ i t) ed ∧ Fr [g] w wr) (fun x _ => 2 - (intOf x).toNat)
 case atStart => exact ⟨0, by omega, rfl, h2, f2⟩
 case round =>
  clear h2 f2
  obtain ⟨t, ht, rfl, hL, hF⟩ := hrel
  by_cases hlt : t < 2
  {
  obtain ⟨k, hix, hkN, hnx⟩ : ∃ k : Nat, (∀ W : World, (Instr.index 189 (.agg #[.int .i64 (σ i).k1, .int .i64 (σ i).k0]) (.int .i64 t)).run Tryz.prog W = .ok (.int .i64 k) W) ∧ k < N ∧ pushT σ i (t + 1) = pushK (pushT σ i t) k := by {
  rcases (show t = 0 ∨ t = 1 by omega) with rfl | rfl
  · exact ⟨(σ i).k1, fun W => idx_kids0 _ _ W, (HR.out i hi).2.1, rfl⟩
  · exact ⟨(σ i).k0, fun W => idx_kids1 _ _ W, (HR.out i hi).1, rfl⟩
  }
  have Hnx := Lib.hid hnx; clear hnx
  generalize pushT σ i t = τ at *
  by_cases hk0 : k = 0
  {
  subst hk0
  go_wp2
  exact ⟨⟨t + 1, by omega, by go_num, by rw [Hnx.out]; exact hL, hF⟩, by simp [intOf]; omega⟩
  }
  {
  have hb0 : ((k : Int) == 0) = false := beq_eq_false_iff_ne.2 (by omega)
  have hk2 : (k : Int) < N := by omega
  have c1 := hL.hd.cell 1
  simp only [List.getElem?_cons_zero, List.getElem?_cons_succ] at c1
  have a3 := hL.nodes.c3 k hkN
  have hfz := hL.nodes.frozen
  go_wp2
  refine region_one 16 (fun w' => LctAt w' pf g N cap (τ.upd k { τ k with flip := !(τ k).flip }) ed ∧ Fr [g] w w') (by kernel_rfl) (by kernel_rfl) (by kernel_rfl) ?_
  iterate 16 (refine gWalk_pre (by decide) (fun K hK => ?_); go_simp; refine hK _ ?_; clear hK K)
  refine gWalk_write rfl undef (fun w' hw' => ?_) ?_
  {
  obtain ⟨nq, rfl⟩ := hw'
  go_simp
  exact (hL.eqv (Eqv.drewN wr nq)).st3 (hF.drewN nq) hkN _
  }
  refine gWalk_nil ?_
  rintro w3 ⟨h3, f3⟩
  go_wp2
  exact ⟨⟨t + 1, by omega, by go_num, by rw [Hnx.out]; unfold pushK; rw [if_neg hk0]; exact h3, f3⟩, by simp [intOf]; omega⟩
  }
  }
  {
  obtain rfl : t = 2 := by omega
  go_wp2
  go_end0
  exact ⟨rfl, by rw [Hp.out]; exact hL, hF⟩
  }
 }
 {
 have hfl : (σ i).flip = false := by simpa using hfl
 have hp : push σ i = σ := by unfold push; rw [if_neg (by simp [hfl])]
 rw [hp]; clear hp
 rw [hfl] at a3
 go_enter Tryz.func201, Tryz.ntmps201
 go_wp2
 refine bodyPost_ret (results_none rfl _ _ _) rfl ?_
 exact ⟨rfl, h, Fr.refl _ _⟩
 }
end Go.Proofs.YtgmnemndjjmgkaaGreat

namespace Go.Proofs.YtgmnemndjjmgkaaGreat
open Go.RowKit
def sideOf (σ : Tbl) (i : Nat) : Nat × Bool :=
  if (σ i).up = 0 then (0, false) else if (σ (σ i).up).k0 = i then (0, true) else if (σ (σ i).up).k1 = i then (1, true) else (0, false)
def setKid (n : Nd) (s k : Nat) : Nd := if s = 0 then { n with k0 := k } else { n with k1 := k }
def kid (n : Nd) (s : Nat) : Nat := if s = 0 then n.k0 else n.k1
def hang (σ : Tbl) (i s k : Nat) : Tbl :=
  let σ1 := σ.upd i (setKid (σ i) s k)
  if k = 0 then σ1 else σ1.upd k { σ1 k with up := i }
set_option maxRecDepth 10000
set_option maxHeartbeats 400000
theorem side_w {w : World} {pf g N cap : Nat} {σ : Tbl} {ed : Int} (h : LctAt w pf g N cap σ ed) (i : Nat) (hi : i < N) (hR : InR N σ) :
    Calls Tryz.prog 199 #[.pointer (some ⟨pf, 0, none⟩), .int .i64 i] w fun e w' => e = .returned (.tuple #[.int .i64 (sideOf σ i).1, .bool (sideOf σ i).2]) ∧ w' = w := by
 have c1 := h.hd.cell 1
 simp only [List.getElem?_cons_zero, List.getElem?_cons_succ] at c1
 have hN := h.le
 have a2 := h.nodes.c2 i hi
 have hp := (hR i hi).2.2.1
 have hi2 : (i : Int) < N := by omega
 have HR := Lib.hid hR; clear hR
 have hs : sideOf σ i = if (σ i).up = 0 then (0, false) else if (σ (σ i).up).k0 = i then (0, true) else if (σ (σ i).up).k1 = i then (1, true) else (0, false) := rfl
 generalize hpp : (σ i).up = p at *
 have Hs := Lib.hid hs; clear hs
 by_cases hp0 : p = 0
 {
 subst hp0
 rw [Hs.out, if_pos rfl]
 clear Hs
 go_enter Tryz.func199, Tryz.ntmps199
 go_wp2
 go_ret2
 exact ⟨rfl, rfl⟩
 }
 {
 have hp2 : (p : Int) < N := by omega
 have hb0 : ((p : Int) == 0) = false := beq_eq_false_iff_ne.2 (by omega)
 have b0 := h.nodes.c0 p hp
 have b1 := h.nodes.c1 p hp
 have Hp0 := Lib.hid hp0; clear hp0
 go_enter Tryz.func199, Tryz.ntmps199
 go_wp2
 clear a2 b0 b1 c1
 go_loopw [27] (fun x wr => ∃ t : Nat, t ≤ 2 ∧ x = .int .i64 t ∧ wr = w ∧ (0 < t → (σ p).k0 ≠ i) ∧ (1 < t → (σ p).k1 ≠ i)) (fun x _ => 2 - (intOf x).toNat)
 case atStart => exact ⟨0, by omega, rfl, rfl, by omega, by omega⟩
 case round =>
  obtain ⟨t, ht, rfl, rfl, he0, he1⟩ := hrel
  by_cases hlt : t < 2
  {
  obtain ⟨k, hix, hkN, hy, hn0, hn1⟩ : ∃ k : Nat, (∀ W : World, (Instr.index 189 (.agg #[.int .i64 (σ p).k0, .int .i64 (σ p).k1]) (.int .i64 t)).run Tryz.prog W = .ok (.int .i64 k) W) ∧ k < N ∧ (k = i → sideOf σ i = (t, true)) ∧ (k ≠ i → 0 < t + 1 → (σ p).k0 ≠ i) ∧ (k ≠ i → 1 < t + 1 → (σ p).k1 ≠ i) := by {
  rcases (show t = 0 ∨ t = 1 by omega) with rfl | rfl
  · exact ⟨(σ p).k0, fun W => idx_kids0 _ _ W, (HR.out p hp).1, fun e => by rw [Hs.out, if_neg Hp0.out, if_pos e], fun e _ => e, fun _ e => by omega⟩
  · exact ⟨(σ p).k1, fun W => idx_kids1 _ _ W, (HR.out p hp).2.1, fun e => by rw [Hs.out, if_neg Hp0.out, if_neg (he0 (by decide)), if_pos e], fun _ _ => he0 (by decide), fun e _ => e⟩
  }
  have Hy := Lib.hid hy; clear hy
  have Hn0 := Lib.hid hn0; clear hn0
  have Hn1 := Lib.hid hn1; clear hn1
  clear he0 he1
  by_cases hki : k = i
  {
  have hb : ((k : Int) == (i : Int)) = true := beq_iff_eq.2 (by omega)
  go_wp2
  go_ret2
  rw [Hy.out hki]
  exact ⟨rfl, rfl⟩
  }
  {
  have hb : ((k : Int) == (i : Int)) = false := beq_eq_false_iff_ne.2 (by omega)
  go_wp2
  exact ⟨⟨t + 1, by omega, by go_num, trivial, Hn0.out hki, Hn1.out hki⟩, by simp [intOf]; omega⟩
  }
  }
  {
  obtain rfl : t = 2 := by omega
  have hs : sideOf σ i = (0, false) := by rw [Hs.out, if_neg Hp0.out, if_neg (he0 (by decide)), if_neg (he1 (by decide))]
  have Hs' := Lib.hid hs; clear hs
  clear Hs he0 he1
  go_wp2
  go_ret2
  rw [Hs'.out]
  exact ⟨rfl, rfl⟩
  }
 }
theorem hang_w {w : World} {pf g N cap : Nat} {σ : Tbl} {ed : Int} (h : LctAt w pf g N cap σ ed) (i s k : Nat) (hi : i < N) (hs : s < 2) (hk : k < N) :
    Calls Tryz.prog 223 #[.pointer (some ⟨pf, 0, none⟩), .int .i64 i, .int .i64 s, .int .i64 k] w fun e w' => e = .returned (.tuple #[]) ∧ LctAt w' pf g N cap (hang σ i s k) ed ∧ Fr [g] w w' := by
 have c1 := h.hd.cell 1
 simp only [List.getElem?_cons_zero, List.getElem?_cons_succ] at c1
 have hN := h.le
 have hfz := h.nodes.frozen
 have hi2 : (i : Int) < N := by omega
 have hk2 : (k : Int) < N := by omega
 have key : ∀ W1 : World, LctAt W1 pf g N cap (σ.upd i (setKid (σ i) s k)) ed ∧ Fr [g] w W1 → (k = 0 → LctAt W1 pf g N cap (hang σ i s k) ed ∧ Fr [g] w W1) ∧ (k ≠ 0 → LctAt (W1.setCell ⟨g, k * 9 + 2, none⟩ (.int .i64 i)) pf g N cap (hang σ i s k) ed ∧ Fr [g] w (W1.setCell ⟨g, k * 9 + 2, none⟩ (.int .i64 i))) := by {
 intro W1 ⟨h1, f1⟩
 constructor
 · intro e; unfold hang; rw [if_pos e]; exact ⟨h1, f1⟩
 · intro e; unfold hang; rw [if_neg e]; exact h1.st2 f1 hk i
 }
 have Key := Lib.hid key; clear key
 rcases (show s = 0 ∨ s = 1 by omega) with rfl | rfl
 {
 obtain ⟨h1, f1⟩ := h.st0 (Fr.refl _ _) hi k
 have a0 := h.nodes.c0 i hi
 have K := Lib.hid (Key.out _ ⟨h1, f1⟩)
 clear Key f1
 by_cases hk0 : k = 0
 {
 have r := K.out.1 hk0
 clear K h1
 subst hk0
 go_enter Tryz.func223, Tryz.ntmps223
 go_wp2
 go_end0
 exact ⟨rfl, r⟩
 }
 {
 have hb0 : ((k : Int) == 0) = false := beq_eq_false_iff_ne.2 (by omega)
 have hfz1 := h1.nodes.frozen
 have d1 := h1.hd.cell 1
 simp only [List.getElem?_cons_zero, List.getElem?_cons_succ] at d1
 have b2 := h1.nodes.c2 k hk
 have r := K.out.2 hk0
 clear K h1
 go_enter Tryz.func223, Tryz.ntmps223
 go_wp2
 go_end0
 exact ⟨rfl, r⟩
 }
 }
 {
 obtain ⟨h1, f1⟩ := h.st1 (Fr.refl _ _) hi k
 have a0 := h.nodes.c1 i hi
 have K := Lib.hid (Key.out _ ⟨h1, f1⟩)
 clear Key f1
 by_cases hk0 : k = 0
 {
 have r := K.out.1 hk0
 clear K h1
 subst hk0
 go_enter Tryz.func223, Tryz.ntmps223
 go_wp2
 go_end0
 exact ⟨rfl, r⟩
 }
 {
 have hb0 : ((k : Int) == 0) = false := beq_eq_false_iff_ne.2 (by omega)
 have hfz1 := h1.nodes.frozen
 have d1 := h1.hd.cell 1
 simp only [List.getElem?_cons_zero, List.getElem?_cons_succ] at d1
 have b2 := h1.nodes.c2 k hk
 have r := K.out.2 hk0
 clear K h1
 go_enter Tryz.func223, Tryz.ntmps223
 go_wp2
 go_end0
 exact ⟨rfl, r⟩
 }
 }
end Go.Proofs.YtgmnemndjjmgkaaGreat
