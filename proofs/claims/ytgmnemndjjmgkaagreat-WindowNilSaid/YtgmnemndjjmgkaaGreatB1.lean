/- Walks over package arena: what each call does, said of cells. -/
import Derived.Test.YtgmnemndjjmgkaaGreatRows
import Derived.WalkKit
import Derived.WalkSpells
import Derived.WalkLawsBesides
import Derived.LaidEqlPtr
import Derived.Deep.QuietTactic
import Derived.BigQuiet
import Derived.Lib.Hide
import Derived.RangeFuncBox
import Derived.Maps.AppendAt
import Derived.ProofKit
import Derived.OpenShut
import Derived.ShutString
import Derived.Deep.Slices
import Derived.ChangeSame
set_option linter.unusedSimpArgs false
set_option linter.unusedVariables false
/- Small facts on blocks of memory and on what a call leaves alone; used by all walks of this seat. -/
namespace Go.Proofs.YtgmnemndjjmgkaaGreat
open Go.RowKit
def Blk (w : World) (b : Nat) (t : TypeId) (l : List Value) : Prop := w.heap[b]? = some (.cells l.toArray t (0, 0))
section
variable {w : World} {b : Nat} {t : TypeId} {l : List Value}
theorem Blk.cell (h : Blk w b t l) (i : Nat) : w.cell? ⟨b, i, none⟩ = l[i]? := by
 unfold Blk at h; simp [World.cell?, h]
theorem Blk.frozen (h : Blk w b t l) (i : Nat) : w.frozen? ⟨b, i, none⟩ = false := by
 unfold Blk at h; simp [World.frozen?, h]
theorem Blk.lt (h : Blk w b t l) : b < w.heap.size := (Array.getElem?_eq_some_iff.1 h).1
theorem Blk.of_same {w' : World} (h : Blk w b t l) (e : w'.heap[b]? = w.heap[b]?) : Blk w' b t l := e.trans h
theorem Blk.alloc (h : Blk w b t l) (o : Obj) : Blk (w.alloc o) b t l := h.of_same (Below.heap_alloc w o b h.lt)
theorem Blk.drew (h : Blk w b t l) : Blk w.drew b t l := h
theorem Blk.drewN (h : Blk w b t l) (n : Nat) : Blk (w.drewN n) b t l := h
theorem Blk.other (h : Blk w b t l) (a : Addr) (u : Value) (hne : b ≠ a.block) : Blk (w.setCell a u) b t l :=
  h.of_same (Below.heap_setCell w a u b hne)
theorem Blk.set (h : Blk w b t l) (i : Nat) (u : Value) : Blk (w.setCell ⟨b, i, none⟩ u) b t (l.set i u) := by
 have hb := h.lt
 unfold Blk at *
 simp only [World.setCell, Array.getElem?_modify]
 simp [h]
theorem Blk.new (w : World) (l : List Value) (t : TypeId) : Blk (w.alloc (.cells l.toArray t)) w.heap.size t l := by
 show (w.heap.push _)[w.heap.size]? = _
 simp
theorem Blk.eq {l' : List Value} {t' : TypeId} (h : Blk w b t l) (h' : Blk w b t' l') : l = l' := by
 unfold Blk at *; rw [h] at h'; simp at h'; exact h'.1
end
structure Fr (S : List Nat) (w w' : World) : Prop where
  os : w'.os = w.os
  tape : w'.tape = w.tape
  output : w'.output = w.output
  size : w.heap.size ≤ w'.heap.size
  keep : ∀ k, k < w.heap.size → k ∉ S → w'.heap[k]? = w.heap[k]?
section
variable {S : List Nat} {w w' w'' : World}
theorem Fr.refl (S : List Nat) (w : World) : Fr S w w := ⟨rfl, rfl, rfl, Nat.le_refl _, fun _ _ _ => rfl⟩
theorem Fr.trans {S' : List Nat} (h : Fr S w w') (k : Fr S' w' w'') (hs : ∀ b ∈ S', b ∈ S ∨ w.heap.size ≤ b) : Fr S w w'' :=
  ⟨k.os.trans h.os, k.tape.trans h.tape, k.output.trans h.output, Nat.le_trans h.size k.size, fun i hi hn =>
    (k.keep i (Nat.lt_of_lt_of_le hi h.size) (fun hm => (hs i hm).elim hn (fun h => by omega))).trans (h.keep i hi hn)⟩
theorem Fr.trans' (h : Fr S w w') (k : Fr S w' w'') : Fr S w w'' := h.trans k (fun _ hb => .inl hb)
theorem Fr.mono {S' : List Nat} (h : Fr S w w') (hs : ∀ b ∈ S, b ∈ S' ∨ w.heap.size ≤ b) : Fr S' w w' :=
  ⟨h.os, h.tape, h.output, h.size, fun k hk hn => h.keep k hk (fun hm => (hs k hm).elim hn (fun h => by omega))⟩
theorem Fr.drew (h : Fr S w w') : Fr S w w'.drew := ⟨h.os, h.tape, h.output, h.size, h.keep⟩
theorem Fr.drewN (h : Fr S w w') (n : Nat) : Fr S w (w'.drewN n) := ⟨h.os, h.tape, h.output, h.size, h.keep⟩
theorem Fr.alloc (h : Fr S w w') (o : Obj) : Fr S w (w'.alloc o) :=
  h.trans' ⟨rfl, rfl, rfl, by simp, fun k hk _ => Below.heap_alloc _ _ _ hk⟩
theorem Fr.setCell (h : Fr S w w') (a : Addr) (u : Value) (ha : a.block ∈ S ∨ w.heap.size ≤ a.block) : Fr S w (w'.setCell a u) :=
  h.trans (S' := [a.block]) ⟨rfl, rfl, rfl, by simp [World.setCell], fun k _ hn => Below.heap_setCell _ _ _ _ (by simpa using hn)⟩
    (fun b hb => by simp at hb; subst hb; exact ha)
theorem Fr.grown {row : Option Nat} (h : Fr S w w') (hg : w'.grownBy w'' row) (hr : ∀ k, row = some k → k ∈ S ∨ w.heap.size ≤ k) : Fr S w w'' :=
  h.trans (S' := row.toList) ⟨hg.os, hg.tape, hg.output, hg.size, fun k hk hn => hg.block k hk (fun e => hn (by simp [← e]))⟩
    (fun b hb => hr b (by simpa using hb))
theorem Fr.below (h : Fr S w w') (hs : ∀ b ∈ S, w.heap.size ≤ b) : Below w.heap.size w w' :=
  ⟨h.os, h.tape, h.output, h.size, fun k hk => h.keep k hk (fun hm => by have := hs k hm; omega)⟩
theorem Fr.of_below (h : Below w.heap.size w w') : Fr [] w w' := ⟨h.os, h.tape, h.output, h.size, fun k hk _ => h.block k hk⟩
theorem Fr.blk {b : Nat} {t : TypeId} {l : List Value} (h : Fr S w w') (hb : Blk w b t l) (hn : b ∉ S) : Blk w' b t l :=
  hb.of_same (h.keep b hb.lt hn)
end
theorem cell_lt {w : World} {a : Addr} {v : Value} (h : w.cell? a = some v) : a.block < w.heap.size := by
 by_cases hb : a.block < w.heap.size
 · exact hb
 {
 have : w.heap[a.block]? = none := Array.getElem?_eq_none (by omega)
 simp [World.cell?, this] at h
 }
theorem Fr.cell {S : List Nat} {w w' : World} {a : Addr} {v : Value} (h : Fr S w w') (hc : w.cell? a = some v) (hn : a.block ∉ S) : w'.cell? a = some v :=
  (World.cell?_of_block (w := w) (h.keep _ (cell_lt hc) hn)).trans hc
structure Eqv (w' w : World) : Prop where
  heap : w'.heap = w.heap
  os : w'.os = w.os
  tape : w'.tape = w.tape
  output : w'.output = w.output
theorem Eqv.refl (w : World) : Eqv w w := ⟨rfl, rfl, rfl, rfl⟩
theorem Eqv.drewN (w : World) (n : Nat) : Eqv (w.drewN n) w := ⟨rfl, rfl, rfl, rfl⟩
theorem Eqv.drew (w : World) : Eqv w.drew w := ⟨rfl, rfl, rfl, rfl⟩
theorem Eqv.blk {w' w : World} (h : Eqv w' w) {b : Nat} {t : TypeId} {l : List Value} (hb : Blk w b t l) : Blk w' b t l := by
 unfold Blk at *; rw [h.heap]; exact hb
theorem Eqv.fr {w' w w0 : World} (h : Eqv w' w) {S : List Nat} (hf : Fr S w0 w) : Fr S w0 w' :=
  ⟨h.os.trans hf.os, h.tape.trans hf.tape, h.output.trans hf.output, by rw [h.heap]; exact hf.size, by rw [h.heap]; exact hf.keep⟩
theorem Eqv.cell {w' w : World} (h : Eqv w' w) (a : Addr) : w'.cell? a = w.cell? a := by simp [World.cell?, h.heap]
theorem Eqv.owns {w' w : World} (h : Eqv w' w) {base : Nat} {e : TypeId} {size : Nat} {v : Value} {n : Nat} {xs : List Value}
    (k : w.ownsRow base e size v n xs) : w'.ownsRow base e size v n xs := by unfold World.ownsRow at *; rw [h.heap]; exact k
theorem ownsRow_same {w w' : World} {base : Nat} {e : TypeId} {size : Nat} {v : Value} {n : Nat} {xs : List Value}
    (h : w.ownsRow base e size v n xs) (hs : ∀ k, v.ownBlock = some k → w'.heap[k]? = w.heap[k]?) : w'.ownsRow base e size v n xs := by
 obtain ⟨h1, h2⟩ := h
 refine ⟨h1, ?_⟩
 rcases h2 with h2 | ⟨g, cap, cur, rfl, hg, hh, r⟩
 · exact Or.inl h2
 · exact Or.inr ⟨g, cap, cur, rfl, hg, by rw [hs g rfl]; exact hh, r⟩
theorem ownsRow_at {w : World} {base : Nat} {e : TypeId} {v : Value} {n : Nat} {xs : List Value} (h : w.ownsRow base e 1 v n xs) {i : Nat} (hi : i < n) :
    ∃ g cap, v = .slice (some ⟨g, 0, none⟩) n cap ∧ n ≤ cap ∧ g < w.heap.size ∧ w.cell? ⟨g, i, none⟩ = xs[i]? ∧ (∀ j, w.frozen? ⟨g, j, none⟩ = false) := by
 obtain ⟨h1, h2⟩ := h
 rcases h2 with ⟨_, h2⟩ | ⟨g, cap, cur, rfl, _, hh, hn, hm, hsz, hxs⟩
 · omega
 {
 refine ⟨g, cap, rfl, hn, (Array.getElem?_eq_some_iff.1 hh).1, ?_, fun j => by simp [World.frozen?, hh]⟩
 subst hxs
 simp only [World.cell?, hh]
 simp [hi]
 }
theorem ownsRow_slice {w : World} {base : Nat} {e : TypeId} {size : Nat} {v : Value} {n : Nat} {xs : List Value} (h : w.ownsRow base e size v n xs) : ∃ a cap, v = .slice a n cap := by
 rcases h.2 with ⟨rfl, rfl⟩ | ⟨g, cap, cur, rfl, _⟩
 · exact ⟨_, _, rfl⟩
 · exact ⟨_, _, rfl⟩
theorem ownsRow_set {w : World} {e : TypeId} {g n cap i : Nat} {xs : List Value} (h : w.ownsRow 0 e 1 (.slice (some ⟨g, 0, none⟩) n cap) n xs) (_hi : i < n) (u : Value) :
    (w.setCell ⟨g, i, none⟩ u).ownsRow 0 e 1 (.slice (some ⟨g, 0, none⟩) n cap) n (xs.set i u) := by
 obtain ⟨h1, h2⟩ := h
 refine ⟨by simpa using h1, ?_⟩
 rcases h2 with ⟨h2, _⟩ | ⟨g', cap', cur, e1, _, hh, hn, hm, hsz, hxs⟩
 · cases h2
 {
 simp only [Value.slice.injEq, Option.some.injEq, Addr.mk.injEq, and_true, true_and] at e1
 obtain ⟨rfl, rfl⟩ := e1
 refine .inr ⟨g, cap, cur.setIfInBounds i u, rfl, Nat.zero_le _, ?_, hn, hm, by simpa using hsz, ?_⟩
 {
 simp only [World.setCell, Array.getElem?_modify]
 simp [hh]
 }
 · rw [← hxs, Array.toList_setIfInBounds, Nat.mul_one, List.take_set]
 }
theorem ownsRow_other {w : World} {base : Nat} {e : TypeId} {size : Nat} {v : Value} {n : Nat} {xs : List Value} (h : w.ownsRow base e size v n xs) (a : Addr) (u : Value) (hn : v.ownBlock ≠ some a.block) :
    (w.setCell a u).ownsRow base e size v n xs :=
  ownsRow_same h fun _k hk => Below.heap_setCell _ _ _ _ (fun e => hn (e ▸ hk))
theorem ret_int {k : IntKind} {a b : Int} (h : a = b) : Ending.returned (.int k a) = .returned (.int k b) := by rw [h]
theorem cell_new1 (W : World) (n : Nat) (u : Value) (t : TypeId) (h : W.heap.size = n) : (W.alloc (.cells #[u] t)).cell? ⟨n, 0, none⟩ = some u := by
 subst h; simp
theorem run_app {P : Program} (w : World) (t ty e : TypeId) (i : TypeInfo) (z : Value) (size bytes : Nat) (ht : P.underlying t = some (.slice e)) (hi : P.info? e = some i) (hz : i.zero = some z)
    (hsize : i.size = size) (hby : i.bytes = bytes) (hzs : z.cells.size = size) (hsz : 0 < size)
    (v : Value) (n : Nat) (xs : List Value) (hown : w.ownsRow 0 e size v n xs)
    (a : Addr) (m c : Nat) (news : List Value) (hl : news.length = m * size) (hnews : ∀ j u, news[j]? = some u → w.cell? (a.add j) = some u) (h1 : ∀ u ∈ news, u.oneCell' = true)
    (hm : 0 < m) (h63 : n + m ≤ maxLen) (hbytes : (n + m) * bytes ≤ 140737488355328) :
    ∃ g cap w', (Builtin.append_ #[t, t] ty #[v, .slice (some a) m c]).run P w = .ok (.slice (some ⟨g, 0, none⟩) (n + m) cap) w' ∧ w'.ownsRow 0 e size (.slice (some ⟨g, 0, none⟩) (n + m) cap) (n + m) (xs ++ news) ∧
      w.grownBy w' v.ownBlock ∧ (v.ownBlock = some g ∨ w.heap.size ≤ g) := by
 obtain ⟨v', w', hr, h2, h3, _⟩ := run_append_own (P := P) w 0 t ty e i z size bytes ht hi hz hsize hby hzs hsz v n xs hown a m c news hl hnews h1 h63 hbytes (Nat.zero_le _)
 rcases hown.2 with ⟨rfl, rfl⟩ | ⟨g, cap, cur, rfl, _, hg, hnc, hcm, hcs, htake⟩
 {
 obtain ⟨v2, w2, hr2, h22, _, _⟩ := run_append_own (P := P) w w.heap.size t ty e i z size bytes ht hi hz hsize hby hzs hsz (.slice none 0 0) 0 xs ⟨hown.1, .inl ⟨rfl, rfl⟩⟩ a m c news hl hnews h1 h63 hbytes (Nat.le_refl _)
 rw [hr] at hr2
 simp only [Result.ok.injEq] at hr2
 obtain ⟨rfl, rfl⟩ := hr2
 rcases h22.2 with ⟨_, h0⟩ | ⟨g, cap, cur, rfl, hgb, _⟩
 · omega
 · exact ⟨g, cap, _, hr, h2, h3, .inr hgb⟩
 }
 {
 by_cases hroom : n + m ≤ cap
 {
 have hfit : n * i.size + news.length ≤ cur.size := by rw [hl, hcs, hsize, ← Nat.add_mul]; exact Nat.mul_le_mul_right _ hroom
 have hr2 := run_append_room (P := P) w t ty e i ht hi g n cap cur hg a m c news (by rw [hsize]; exact hl) hnews h1 hroom hfit
 rw [hr] at hr2
 simp only [Result.ok.injEq] at hr2
 obtain ⟨rfl, rfl⟩ := hr2
 exact ⟨g, cap, _, hr, h2, h3, .inl rfl⟩
 }
 {
 have holds : ∀ j u, xs[j]? = some u → w.cell? ((⟨g, 0, none⟩ : Addr).add j) = some u := hown.cells (g := g) rfl
 obtain ⟨v2, w2, hr2, h22, _⟩ := run_append_arg_grows (P := P) w t ty e i z size bytes ht hi hz hsize hby hzs hsz ⟨g, 0, none⟩ n cap xs hown.1 holds a m c news hl hnews (by omega) h63 hbytes
 rw [hr] at hr2
 simp only [Result.ok.injEq] at hr2
 obtain ⟨rfl, rfl⟩ := hr2
 rcases h22.2 with ⟨_, h0⟩ | ⟨g', cap', cur', rfl, hgb, _⟩
 · omega
 · exact ⟨g', cap', _, hr, h2, h3, .inr hgb⟩
 }
 }
theorem wpList_app {P : Program} {w : World} {ops : Array Oper} {rest : List Oper} {o : Oper} {a : Act} {Q : Exit → Act → World → Prop} (hgd : o.guard = none) (s x : Operand) (t : TypeId)
    (ho : o.op = .call { callee := .builtin .append, args := #[s, x], argTypes := #[t, t] })
    (e : TypeId) (i : TypeInfo) (z : Value) (size bytes : Nat) (ht : P.underlying t = some (.slice e)) (hi : P.info? e = some i) (hz : i.zero = some z)
    (hsize : i.size = size) (hby : i.bytes = bytes) (hzs : z.cells.size = size) (hsz : 0 < size)
    (v : Value) (n : Nat) (xs : List Value) (hs : a.eval s = v) (hown : w.ownsRow 0 e size v n xs)
    (ad : Addr) (m c : Nat) (news : List Value) (hx : a.eval x = .slice (some ad) m c) (hl : news.length = m * size) (hnews : ∀ j u, news[j]? = some u → w.cell? (ad.add j) = some u) (h1 : ∀ u ∈ news, u.oneCell' = true)
    (hm : 0 < m) (h63 : n + m ≤ maxLen) (hbytes : (n + m) * bytes ≤ 140737488355328)
    (h : ∀ g cap w', w'.ownsRow 0 e size (.slice (some ⟨g, 0, none⟩) (n + m) cap) (n + m) (xs ++ news) → w.grownBy w' v.ownBlock → (v.ownBlock = some g ∨ w.heap.size ≤ g) →
      wpList P ops Q rest (a.put o.dst (.slice (some ⟨g, 0, none⟩) (n + m) cap)) w') : wpList P ops Q (o :: rest) a w := by
 refine wpList_plain hgd fun K hK => ?_
 obtain ⟨g, cap, w', hr, h2, h3, h4⟩ := run_app (P := P) w t o.type e i z size bytes ht hi hz hsize hby hzs hsz v n xs hown ad m c news hl hnews h1 hm h63 hbytes
 unfold Oper.wp execOp
 simp only [ho, resolve, invoke, builtin, Sem.run_bind, Sem.run_pure, Result.andThen_ok, List.map_toArray, List.map_cons, List.map_nil, hs, hx, hr]
 exact hK _ _ (h g cap w' h2 h3 h4)
theorem wpList_app1 {P : Program} {w : World} {ops : Array Oper} {rest : List Oper} {o : Oper} {a : Act} {Q : Exit → Act → World → Prop} (hgd : o.guard = none) (s x : Operand) (t : TypeId)
    (ho : o.op = .call { callee := .builtin .append, args := #[s, x], argTypes := #[t, t] })
    (e : TypeId) (z : Value) (bytes : Nat) (ht : P.underlying t = some (.slice e)) (hinfo : (P.info? e).map (fun i => (i.zero, i.size, i.bytes)) = some (some z, 1, bytes)) (hzs : z.cells.size = 1)
    (v : Value) (n : Nat) (xs : List Value) (hs : a.eval s = v) (hown : w.ownsRow 0 e 1 v n xs)
    (b : Nat) (u : Value) (hx : a.eval x = .slice (some ⟨b, 0, none⟩) 1 1) (hu : w.cell? ⟨b, 0, none⟩ = some u) (hu1 : u.oneCell' = true)
    (hn : n + 1 ≤ 4294967296) (hby : bytes ≤ 1024)
    (h : ∀ g cap w', w'.ownsRow 0 e 1 (.slice (some ⟨g, 0, none⟩) (n + 1) cap) (n + 1) (xs ++ [u]) → w.grownBy w' v.ownBlock → (v.ownBlock = some g ∨ w.heap.size ≤ g) →
      wpList P ops Q rest (a.put o.dst (.slice (some ⟨g, 0, none⟩) (n + 1) cap)) w') : wpList P ops Q (o :: rest) a w := by
 obtain ⟨i0, hi, hz0, hz1, hz2⟩ := info_parts hinfo
 refine wpList_app hgd s x t ho e i0 z 1 bytes ht hi hz0 hz1 hz2 hzs (by decide) v n xs hs hown ⟨b, 0, none⟩ 1 1 [u] hx rfl ?_ ?_ (by decide) (by unfold maxLen; omega) ?_ h
 {
 intro j x hj
 cases j with
 | zero => simp at hj; subst hj; exact hu
 | succ j => simp at hj
 }
 · simp [hu1]
 {
 have : (n + 1) * bytes ≤ 4294967296 * 1024 := Nat.mul_le_mul hn hby
 omega
 }
end Go.Proofs.YtgmnemndjjmgkaaGreat

/- How the arguments of the laws read: slices of integers. -/
namespace Go.Proofs.YtgmnemndjjmgkaaGreat
open Go.ChangeShapes Go.WideShapes Go.ChangeAt Go.RowKit
end Go.Proofs.YtgmnemndjjmgkaaGreat

/- How values of flat types (structs of integers and bools) and slices of them read. -/
namespace Go.Proofs.YtgmnemndjjmgkaaGreat
open Go.ChangeShapes Go.WideShapes Go.ChangeAt Go.RowKit Go.Deep
inductive FK where
  | i (k : IntKind)
  | b
def FK.ok : FK → Value → Prop
  | .i k, v => ∃ n : Int, v = .int k n ∧ (Lit.int k n).wf = true
  | .b, v => ∃ x : Bool, v = .bool x
def Flat (P : Program) (t : TypeId) (ks : List FK) : Prop :=
  P.cellsOf t = ks.length ∧ ∀ {H : Type} {enc : TypeId × Value → H} {w : World} {base : Nat} {spare : Nat → Bool} {held : Bool} {fuel : Nat} {cs : List Value} {x : DataW H × List MemPlace},
    DataW.trod enc P w base spare held fuel t cs = some x → ∀ (j : Nat) (k : FK), ks[j]? = some k → ∃ v, cs[j]? = some v ∧ k.ok v
theorem Flat.int {P : Program} {t : TypeId} {k : IntKind} (ht : P.underlying t = some (.int k)) (hc : P.cellsOf t = 1) : Flat P t [.i k] := by
 refine ⟨hc, fun h j k' hj => ?_⟩
 obtain ⟨n, rfl, _, hw⟩ := DataW.trod_int ht h
 cases j with
 | zero => simp at hj; subst hj; exact ⟨_, rfl, n, rfl, hw⟩
 | succ j => simp at hj
theorem Flat.struct {P : Program} {t : TypeId} {fs : Array Field} {ks : List FK} (ht : P.underlying t = some (.struct fs)) (hc : P.cellsOf t = ks.length)
    (hcov : ∀ (j : Nat) (k : FK), ks[j]? = some k → ∃ (i : Nat) (f : Field) (fk : List FK), fs[i]? = some f ∧ Flat P f.type fk ∧ f.offset ≤ j ∧ fk[j - f.offset]? = some k) : Flat P t ks := by
 refine ⟨hc, fun h j k hj => ?_⟩
 obtain ⟨xs, n, _, _, hl, hlen, hf⟩ := DataW.trod_struct ht h
 obtain ⟨i, f, fk, hi, hfl, hoff, hk⟩ := hcov j k hj
 have h1 := hf i f hi
 have hil : i < xs.length := by rw [hlen]; exact (Array.getElem?_eq_some_iff.1 hi).1
 rw [List.getElem?_eq_getElem hil] at h1
 obtain ⟨v, hv, hok⟩ := hfl.2 h1 (j - f.offset) k hk
 refine ⟨v, ?_, hok⟩
 rw [List.getElem?_take] at hv
 split at hv
 {
 rw [List.getElem?_drop] at hv
 rw [← hv]; congr 1; omega
 }
 · cases hv
theorem cell_no_spot' {W : World} {y : Addr} {v : Value} (h : W.cell? y = some v) : y.spot = none := by
 unfold World.cell? at h
 split at h
 {
 by_cases hs : y.spot.isSome = true
 · rw [if_pos hs] at h; cases h
 {
 cases hy : y.spot with
 | none => rfl
 | some s => rw [hy] at hs; exact absurd rfl hs
 }
 }
 · cases h
def FlatF (w : World) (a : Option Addr) (len : Nat) (ks : List FK) (z : Nat → Nat → Value) : Prop :=
  len ≤ 9223372036854775807 ∧ ∀ i, i < len → ∃ b off, a = some ⟨b, off, none⟩ ∧ b < w.heap.size ∧ ∀ (j : Nat) (k : FK), ks[j]? = some k → w.cell? ⟨b, off + i * ks.length + j, none⟩ = some (z i j) ∧ k.ok (z i j)
theorem open_flat {H : Type} {enc : TypeId × Value → H} {W : World} {P : Program} {t e : TypeId} {ks : List FK} (ht : P.underlying t = some (.slice e)) (he : Flat P e ks) (hks : 0 < ks.length) {a : Option Addr} {len cap : Nat} {d : DataW H} {p : List MemPlace}
    (h : DataW.Trod enc P W 0 (fun _ => true) true t (.slice a len cap) d p) : ∃ z, FlatF W a len ks z := by
 obtain ⟨fuel, hf⟩ := h
 rcases open_slice ht hf with ⟨hcs, _⟩ | ⟨x, l, c, m, n, D, Pl, hcs, _, hl, hm, hmm, _, hel⟩
 {
 simp [Value.cells] at hcs
 obtain ⟨rfl, rfl, rfl⟩ := hcs
 exact ⟨fun _ _ => undef, by omega, fun i hi => absurd hi (Nat.not_lt_zero _)⟩
 }
 {
 simp [Value.cells] at hcs
 obtain ⟨rfl, rfl, rfl⟩ := hcs
 have hml : len ≤ m := by rw [hmm]; simpa using hl
 have key : ∀ i, ∃ u : Nat → Value, i < len → ∀ (j : Nat) (k : FK), ks[j]? = some k → W.cell? ((x.add (i * ks.length)).add j) = some (u j) ∧ k.ok (u j) := by {
 intro i
 by_cases hi : i < len
 {
 obtain ⟨cs', hc, ht⟩ := hel i (by omega)
 rw [he.1] at hc
 obtain ⟨_, _, hat⟩ := World.cells?_some hc
 refine ⟨fun j => cs'.getD j undef, fun _ j k hj => ?_⟩
 obtain ⟨v, hv, hok⟩ := he.2 ht j k hj
 have hjl : j < ks.length := (List.getElem?_eq_some_iff.1 hj).1
 have e1 : cs'.getD j undef = v := by rw [List.getD_eq_getElem?_getD, hv]; rfl
 show W.cell? ((x.add (i * ks.length)).add j) = some (cs'.getD j undef) ∧ k.ok (cs'.getD j undef)
 rw [e1]
 exact ⟨(hat j hjl).trans hv, hok⟩
 }
 · exact ⟨fun _ => undef, fun h => absurd h hi⟩
 }
 obtain ⟨F, hF⟩ := Classical.axiomOfChoice key
 refine ⟨F, by unfold maxLen at hm; omega, fun i hi => ?_⟩
 have hne : ∃ k, ks[0]? = some k := ⟨_, List.getElem?_eq_getElem hks⟩
 obtain ⟨k0, hk0⟩ := hne
 have hsp := cell_no_spot' (hF 0 (by omega) 0 k0 hk0).1
 have z0 : (x.add (0 * ks.length)).add 0 = x := by simp [Addr.add]
 rw [z0] at hsp
 obtain ⟨b, off, sp⟩ := x
 simp only at hsp
 subst hsp
 have h1 := hF i hi
 simp only [Addr.add_lit] at h1
 exact ⟨b, off, rfl, cell_lt (h1 0 k0 hk0).1, h1⟩
 }
end Go.Proofs.YtgmnemndjjmgkaaGreat

namespace Go.Proofs.YtgmnemndjjmgkaaGreat
open Go.RowKit
@[go_sem] theorem eq_arena (a : Addr) (w : World) : (binOp .eql 140 (.pointer (some a)) (.pointer (some a))).run Tryz.prog w = .ok (.bool true) w := by
 obtain ⟨j, hj⟩ := Option.isSome_iff_exists.1 (show (Tryz.prog.info? 198).isSome = true by kernel_rfl)
 exact run_eql_ptr_same w a Tryz.underlying140 hj
set_option maxRecDepth 4000
set_option maxHeartbeats 400000
theorem arena_valid (pa : Nat) (w : World) (hc : w.cell? ⟨pa, 0, none⟩ = some (.pointer (some ⟨pa, 0, none⟩))) :
    Calls Tryz.prog 139 #[.pointer (some ⟨pa, 0, none⟩)] w fun e w' => e = .returned (.bool true) ∧ w = w' := by
 go_enter Tryz.func139, Tryz.ntmps139
 go_wp2
 go_ret
 exact ⟨rfl, rfl⟩
theorem arena_at_w (pa g n cap b i : Nat) (w : World) (h1 : w.cell? ⟨pa, 1, none⟩ = some (.slice (some ⟨g, 0, none⟩) n cap)) (hn : i / 64 < n) (hi : i < 65536)
    (h2 : w.cell? ⟨g, i / 64, none⟩ = some (.pointer (some ⟨b, 0, none⟩))) :
    Calls Tryz.prog 141 #[.pointer (some ⟨pa, 0, none⟩), .int .i64 i] w fun e w' => e = .returned (.pointer (some ⟨b, i % 64 * 3, none⟩)) ∧ w = w' := by
 go_enter Tryz.func141, Tryz.ntmps141
 go_wp2
 go_ret
 exact ⟨rfl, rfl⟩
theorem arena_at_r (pa g n cap b i r : Nat) (w : World) (h1 : w.cell? ⟨pa, 1, none⟩ = some (.slice (some ⟨g, 0, none⟩) n cap)) (hn : i / 64 < n) (hi : i < 65536)
    (h2 : w.cell? ⟨g, i / 64, none⟩ = some (.pointer (some ⟨b, 0, none⟩))) (hr : i % 64 * 3 = r) :
    Calls Tryz.prog 141 #[.pointer (some ⟨pa, 0, none⟩), .int .i64 i] w fun e w' => e = .returned (.pointer (some ⟨b, r, none⟩)) ∧ w = w' := by
 subst hr; exact arena_at_w pa g n cap b i w h1 hn hi h2
theorem arena_state_w (pa g n cap b i begun : Nat) (st : Int) (w : World) (h1 : w.cell? ⟨pa, 1, none⟩ = some (.slice (some ⟨g, 0, none⟩) n cap)) (hn : i / 64 < n) (hi : i < 65536)
    (h3 : w.cell? ⟨pa, 3, none⟩ = some (.int .i64 begun)) (hb : i < begun)
    (h2 : w.cell? ⟨g, i / 64, none⟩ = some (.pointer (some ⟨b, 0, none⟩))) (hs : w.cell? ⟨b, i % 64 * 3, none⟩ = some (.int .i64 st)) :
    Calls Tryz.prog 140 #[.pointer (some ⟨pa, 0, none⟩), .int .i64 i] w fun e w' => e = .returned (.int .i64 st) ∧ w = w' := by
 go_enter Tryz.func140, Tryz.ntmps140
 go_wp2_with (go_at_call 141; refine (arena_at_w pa g n cap b i _ h1 hn hi h2).mono ?_; rintro e w' ⟨rfl, rfl⟩)
 go_ret
 exact ⟨rfl, rfl⟩
theorem arena_next_last (pa k : Nat) (w : World) (h0 : w.cell? ⟨pa, 0, none⟩ = some (.pointer (some ⟨pa, 0, none⟩))) (h5 : w.cell? ⟨pa, 5, none⟩ = some (.int .i64 k)) :
    Calls Tryz.prog 192 #[.pointer (some ⟨pa, 0, none⟩)] w fun e w' => e = .returned (.tuple #[.int .i64 k, .bool true]) ∧ w = w' := by
 have hk : ((k : Int) != -1) = true := by rw [bne_iff_ne]; omega
 go_enter Tryz.func192, Tryz.ntmps192
 go_wp2_with (go_at_call 139; refine (arena_valid pa _ h0).mono ?_; rintro e w' ⟨rfl, rfl⟩)
 go_ret2
 exact ⟨rfl, rfl⟩
theorem arena_next_fresh (pa begun slots : Nat) (w : World) (h0 : w.cell? ⟨pa, 0, none⟩ = some (.pointer (some ⟨pa, 0, none⟩))) (h5 : w.cell? ⟨pa, 5, none⟩ = some (.int .i64 (-1)))
    (h3 : w.cell? ⟨pa, 3, none⟩ = some (.int .i64 begun)) (h2 : w.cell? ⟨pa, 2, none⟩ = some (.int .i64 slots)) (hlt : begun < slots) :
    Calls Tryz.prog 192 #[.pointer (some ⟨pa, 0, none⟩)] w fun e w' => e = .returned (.tuple #[.int .i64 begun, .bool true]) ∧ ∃ n, w' = w.drewN n := by
 go_enter Tryz.func192, Tryz.ntmps192
 go_wp2_with (go_at_call 139; refine (arena_valid pa _ h0).mono ?_; rintro e w' ⟨rfl, rfl⟩)
 go_quiet (fail)
 go_wp2
 go_ret2
 exact ⟨rfl, _, rfl⟩
theorem arena_next_none (pa begun slots : Nat) (w : World) (h0 : w.cell? ⟨pa, 0, none⟩ = some (.pointer (some ⟨pa, 0, none⟩))) (h5 : w.cell? ⟨pa, 5, none⟩ = some (.int .i64 (-1)))
    (h3 : w.cell? ⟨pa, 3, none⟩ = some (.int .i64 begun)) (h2 : w.cell? ⟨pa, 2, none⟩ = some (.int .i64 slots)) (hlt : slots ≤ begun) :
    Calls Tryz.prog 192 #[.pointer (some ⟨pa, 0, none⟩)] w fun e w' => e = .returned (.tuple #[.int .i64 0, .bool false]) ∧ ∃ n, w' = w.drewN n := by
 go_enter Tryz.func192, Tryz.ntmps192
 go_wp2_with (go_at_call 139; refine (arena_valid pa _ h0).mono ?_; rintro e w' ⟨rfl, rfl⟩)
 go_quiet (fail)
 go_wp2
 go_ret2
 exact ⟨rfl, _, rfl⟩
theorem arena_alloc_full (pa begun slots : Nat) (w : World) (h0 : w.cell? ⟨pa, 0, none⟩ = some (.pointer (some ⟨pa, 0, none⟩))) (h5 : w.cell? ⟨pa, 5, none⟩ = some (.int .i64 (-1)))
    (h3 : w.cell? ⟨pa, 3, none⟩ = some (.int .i64 begun)) (h2 : w.cell? ⟨pa, 2, none⟩ = some (.int .i64 slots)) (hlt : slots ≤ begun) :
    Calls Tryz.prog 155 #[.pointer (some ⟨pa, 0, none⟩)] w fun e w' => e = .returned (.tuple #[.int .i64 0, .int .i64 4]) ∧ ∃ n, w' = w.drewN n := by
 go_enter Tryz.func155, Tryz.ntmps155
 go_wp2_with (first | (go_at_call 139; refine (arena_valid pa _ h0).mono ?_; rintro e w' ⟨rfl, rfl⟩) | (go_at_call 192; refine (arena_next_none pa begun slots _ h0 h5 h3 h2 hlt).mono ?_; rintro e w' ⟨rfl, nq, rfl⟩))
 go_ret2
 exact ⟨rfl, _, rfl⟩
theorem arena_alloc_last (pa g n cap b k used : Nat) (aft tm st : Int) (w : World) (hne : b ≠ pa) (h0 : w.cell? ⟨pa, 0, none⟩ = some (.pointer (some ⟨pa, 0, none⟩))) (h5 : w.cell? ⟨pa, 5, none⟩ = some (.int .i64 k))
    (h1 : w.cell? ⟨pa, 1, none⟩ = some (.slice (some ⟨g, 0, none⟩) n cap)) (hn : k / 64 < n) (hi : k < 65536)
    (hga : g ≠ pa) (hgb : g ≠ b) (hf : ∀ j, w.frozen? ⟨pa, j, none⟩ = false) (hfb : ∀ j, w.frozen? ⟨b, j, none⟩ = false)
    (h2 : w.cell? ⟨g, k / 64, none⟩ = some (.pointer (some ⟨b, 0, none⟩))) (h4 : w.cell? ⟨pa, 4, none⟩ = some (.int .i64 used)) (hu : used < 65536)
    (hs0 : w.cell? ⟨b, k % 64 * 3, none⟩ = some (.int .i64 st)) (hs1 : w.cell? ⟨b, k % 64 * 3 + 1, none⟩ = some (.int .i64 aft)) (hs2 : w.cell? ⟨b, k % 64 * 3 + 2, none⟩ = some (.int .u64 tm)) :
    Calls Tryz.prog 155 #[.pointer (some ⟨pa, 0, none⟩)] w fun e w' => e = .returned (.tuple #[.int .i64 k, .int .i64 0]) ∧ ∃ tm', Eqv w' (((((w.setCell ⟨pa, 5, none⟩ (.int .i64 aft)).setCell ⟨b, k % 64 * 3, none⟩ (.int .i64 1)).setCell ⟨b, k % 64 * 3 + 1, none⟩ (.int .i64 (-1))).setCell ⟨b, k % 64 * 3 + 2, none⟩ (.int .u64 tm')).setCell ⟨pa, 4, none⟩ (.int .i64 (used + 1))) := by
 go_enter Tryz.func155, Tryz.ntmps155
 go_wp2_with (first | (go_at_call 139; refine (arena_valid pa _ h0).mono ?_; rintro e w' ⟨rfl, rfl⟩) | (go_at_call 192; refine (arena_next_last pa k _ h0 h5).mono ?_; rintro e w' ⟨rfl, rfl⟩) | (go_at_call 141; refine (arena_at_w pa g n cap b k _ ?_ hn hi ?_).mono ?_; go_simp; go_simp; rintro e w' ⟨rfl, rfl⟩))
 go_ret2
 exact ⟨rfl, _, rfl, rfl, rfl, rfl⟩
theorem arena_alloc_fresh (pa g n cap b k slots used : Nat) (aft tm st : Int) (w : World) (hne : b ≠ pa) (h0 : w.cell? ⟨pa, 0, none⟩ = some (.pointer (some ⟨pa, 0, none⟩))) (h5 : w.cell? ⟨pa, 5, none⟩ = some (.int .i64 (-1)))
    (h1 : w.cell? ⟨pa, 1, none⟩ = some (.slice (some ⟨g, 0, none⟩) n cap)) (hn : k / 64 < n) (hi : k < 65536) (hk : 0 < k % 64)
    (h3 : w.cell? ⟨pa, 3, none⟩ = some (.int .i64 k)) (h2s : w.cell? ⟨pa, 2, none⟩ = some (.int .i64 slots)) (hlt : k < slots)
    (hga : g ≠ pa) (hgb : g ≠ b) (hf : ∀ j, w.frozen? ⟨pa, j, none⟩ = false) (hfb : ∀ j, w.frozen? ⟨b, j, none⟩ = false)
    (h2 : w.cell? ⟨g, k / 64, none⟩ = some (.pointer (some ⟨b, 0, none⟩))) (h4 : w.cell? ⟨pa, 4, none⟩ = some (.int .i64 used)) (hu : used < 65536)
    (hs0 : w.cell? ⟨b, k % 64 * 3, none⟩ = some (.int .i64 st)) (hs1 : w.cell? ⟨b, k % 64 * 3 + 1, none⟩ = some (.int .i64 aft)) (hs2 : w.cell? ⟨b, k % 64 * 3 + 2, none⟩ = some (.int .u64 tm)) :
    Calls Tryz.prog 155 #[.pointer (some ⟨pa, 0, none⟩)] w fun e w' => e = .returned (.tuple #[.int .i64 k, .int .i64 0]) ∧ ∃ tm', Eqv w' (((((w.setCell ⟨pa, 3, none⟩ (.int .i64 (k + 1))).setCell ⟨b, k % 64 * 3, none⟩ (.int .i64 1)).setCell ⟨b, k % 64 * 3 + 1, none⟩ (.int .i64 (-1))).setCell ⟨b, k % 64 * 3 + 2, none⟩ (.int .u64 tm')).setCell ⟨pa, 4, none⟩ (.int .i64 (used + 1))) := by
 have hm : ((k : Int) == -1) = false := beq_eq_false_iff_ne.2 (by omega)
 have hm2 : ((k : Int) % 64 == 0) = false := beq_eq_false_iff_ne.2 (by omega)
 go_enter Tryz.func155, Tryz.ntmps155
 go_wp2_with (first | (go_at_call 139; refine (arena_valid pa _ h0).mono ?_; rintro e w' ⟨rfl, rfl⟩) | (go_at_call 192; refine (arena_next_fresh pa k slots _ h0 h5 h3 h2s hlt).mono ?_; rintro e w' ⟨rfl, nq, rfl⟩) | (go_at_call 141; refine (arena_at_w pa g n cap b k _ ?_ hn hi ?_).mono ?_; go_simp; go_simp; rintro e w' ⟨rfl, rfl⟩))
 go_ret2
 exact ⟨rfl, _, rfl, rfl, rfl, rfl⟩
theorem Tryz.info209 : (Tryz.prog.info? 209).map (fun i => (i.zero, i.size, i.bytes)) = some (some (.pointer none), 1, 8) := by kernel_rfl
theorem zero_slot : (Tryz.zeroCells211[0]? = some (.int .i64 0)) ∧ (Tryz.zeroCells211[1]? = some (.int .i64 0)) ∧ (Tryz.zeroCells211[2]? = some (.int .u64 0)) := ⟨by kernel_rfl, by kernel_rfl, by kernel_rfl⟩
theorem zero_block_len : Tryz.zeroCells211.toList.length = 192 := by kernel_rfl
theorem zero_block_all : (List.range 64).all (fun r => match Tryz.zeroCells211.toList[r * 3]?, Tryz.zeroCells211.toList[r * 3 + 1]?, Tryz.zeroCells211.toList[r * 3 + 2]? with
    | some (.int .i64 0), some (.int .i64 0), some (.int .u64 0) => true
    | _, _, _ => false) = true := by kernel_rfl
theorem zero_block (r : Nat) (hr : r < 64) : Tryz.zeroCells211.toList[r * 3]? = some (.int .i64 0) ∧ Tryz.zeroCells211.toList[r * 3 + 1]? = some (.int .i64 0) ∧ Tryz.zeroCells211.toList[r * 3 + 2]? = some (.int .u64 0) := by
 have h := List.all_eq_true.1 zero_block_all r (by simpa using hr)
 split at h
 · rename_i a b c; exact ⟨a, b, c⟩
 · cases h
theorem grow_facts (pa bl : Nat) (v : Value) (xs : List Value) (w w0 w1 : World) (g' cap' : Nat) (he : Eqv w0 w) (hga : v.ownBlock ≠ some pa) (hpa : pa < w.heap.size) (hxs : xs.length = bl) (hf : ∀ j, w.frozen? ⟨pa, j, none⟩ = false) (hv : ∀ g, v.ownBlock = some g → g < w.heap.size)
    (hown1 : w1.ownsRow 0 209 1 (.slice (some ⟨g', 0, none⟩) (bl + 1) cap') (bl + 1) (xs ++ [.pointer (some ⟨w.heap.size, 0, none⟩)]))
    (hgrow1 : ((w0.alloc (.cells Tryz.zeroCells211 211)).alloc (.cells #[.pointer (some ⟨w.heap.size, 0, none⟩)] 209)).grownBy w1 v.ownBlock)
    (hg1 : v.ownBlock = some g' ∨ ((w0.alloc (.cells Tryz.zeroCells211 211)).alloc (.cells #[.pointer (some ⟨w.heap.size, 0, none⟩)] 209)).heap.size ≤ g') :
    (∀ j, w1.cell? ⟨pa, j, none⟩ = w.cell? ⟨pa, j, none⟩) ∧ (∀ j, w1.frozen? ⟨pa, j, none⟩ = false) ∧ Blk w1 w.heap.size 211 Tryz.zeroCells211.toList ∧ g' ≠ pa ∧ g' ≠ w.heap.size ∧
      w1.cell? ⟨g', bl, none⟩ = some (.pointer (some ⟨w.heap.size, 0, none⟩)) ∧ Fr v.ownBlock.toList w w1 ∧ (v.ownBlock = some g' ∨ w.heap.size < g') ∧ w.heap.size < w1.heap.size := by
 have hsz : w0.heap.size = w.heap.size := by rw [he.heap]
 have hb0 : ∀ k, k < w.heap.size → ((w0.alloc (.cells Tryz.zeroCells211 211)).alloc (.cells #[.pointer (some ⟨w.heap.size, 0, none⟩)] 209)).heap[k]? = w.heap[k]? := by {
 intro k hk
 rw [Below.heap_alloc _ _ _ (by simp [hsz]; omega), Below.heap_alloc _ _ _ (by omega), he.heap]
 }
 have hp : w1.heap[pa]? = w.heap[pa]? := by rw [hgrow1.block pa (by simp [hsz]; omega) (fun e => hga e.symm)]; exact hb0 pa hpa
 have hg2 : v.ownBlock = some g' ∨ w.heap.size + 1 < g' := by {
 rcases hg1 with h | h
 · exact .inl h
 · refine .inr ?_; simp [hsz] at h; omega
 }
 have hnew : w1.heap[w.heap.size]? = some (.cells Tryz.zeroCells211 211 (0, 0)) := by {
 rw [hgrow1.block _ (by simp [hsz]; omega) (fun e => by have := hv _ e.symm; omega), Below.heap_alloc _ _ _ (by simp [hsz])]
 show (w0.heap.push _)[w.heap.size]? = _
 rw [← hsz]; simp
 }
 refine ⟨fun j => World.cell?_of_block (w := w) hp, fun j => (World.frozen?_of_block (w := w) hp).trans (hf j), ?_, ?_, ?_, ?_, ?_, ?_, ?_⟩
 · unfold Blk; rw [hnew]
 {
 rcases hg2 with h | h
 · intro e; subst e; exact hga h
 · omega
 }
 {
 rcases hg2 with h | h
 · have := hv _ h; omega
 · omega
 }
 {
 obtain ⟨g, cap, e, _, _, hc, _⟩ := ownsRow_at hown1 (Nat.lt_succ_self bl)
 simp only [Value.slice.injEq, Option.some.injEq, Addr.mk.injEq, and_true, true_and] at e
 obtain ⟨rfl, _⟩ := e
 rw [hc]; simp [← hxs]
 }
 {
 refine ⟨hgrow1.os.trans he.os, hgrow1.tape.trans he.tape, hgrow1.output.trans he.output, by have := hgrow1.size; simp [hsz] at this; omega, fun k hk hn => ?_⟩
 rw [hgrow1.block k (by simp [hsz]; omega) (fun e => hn (by simp [← e]))]; exact hb0 k hk
 }
 {
 rcases hg2 with h | h
 · exact .inl h
 · exact .inr (by omega)
 }
 · have := hgrow1.size; simp [hsz] at this; omega
theorem arena_alloc_grow (pa bl k slots used : Nat) (v : Value) (xs : List Value) (w : World) (h0 : w.cell? ⟨pa, 0, none⟩ = some (.pointer (some ⟨pa, 0, none⟩))) (h5 : w.cell? ⟨pa, 5, none⟩ = some (.int .i64 (-1)))
    (h1 : w.cell? ⟨pa, 1, none⟩ = some v) (hi : k < 65536) (hk : k % 64 = 0) (hbl : k / 64 = bl) (hown : w.ownsRow 0 209 1 v bl xs)
    (h3 : w.cell? ⟨pa, 3, none⟩ = some (.int .i64 k)) (h2s : w.cell? ⟨pa, 2, none⟩ = some (.int .i64 slots)) (hlt : k < slots)
    (hga : v.ownBlock ≠ some pa) (hpa : pa < w.heap.size) (hf : ∀ j, w.frozen? ⟨pa, j, none⟩ = false)
    (h4 : w.cell? ⟨pa, 4, none⟩ = some (.int .i64 used)) (hu : used < 65536) :
    Calls Tryz.prog 155 #[.pointer (some ⟨pa, 0, none⟩)] w fun e w' => e = .returned (.tuple #[.int .i64 k, .int .i64 0]) ∧
      ∃ g' cap' w1 tm, w1.ownsRow 0 209 1 (.slice (some ⟨g', 0, none⟩) (bl + 1) cap') (bl + 1) (xs ++ [.pointer (some ⟨w.heap.size, 0, none⟩)]) ∧ Fr v.ownBlock.toList w w1 ∧ Blk w1 w.heap.size 211 Tryz.zeroCells211.toList ∧ (v.ownBlock = some g' ∨ w.heap.size < g') ∧
        Eqv w' ((((((w1.setCell ⟨pa, 1, none⟩ (.slice (some ⟨g', 0, none⟩) (bl + 1) cap')).setCell ⟨pa, 3, none⟩ (.int .i64 (k + 1))).setCell ⟨w.heap.size, 0, none⟩ (.int .i64 1)).setCell ⟨w.heap.size, 1, none⟩ (.int .i64 (-1))).setCell ⟨w.heap.size, 2, none⟩ (.int .u64 tm)).setCell ⟨pa, 4, none⟩ (.int .i64 (used + 1))) := by
 have hm : ((k : Int) == -1) = false := beq_eq_false_iff_ne.2 (by omega)
 have hm2 : ((k : Int) % 64 == 0) = true := beq_iff_eq.2 (by omega)
 have H1 := Lib.hid hbl; clear hbl
 have H2 := Lib.hid hk; clear hk
 have Hg := Lib.hid hga; clear hga
 have Hx := Lib.hid (show xs.length = bl by have := hown.1; omega)
 have hv : ∀ g, v.ownBlock = some g → g < w.heap.size := fun g e => (hown.lt g e).2
 obtain ⟨z0, z1, z2⟩ := zero_slot
 simp only [← Array.getElem?_toList] at z0 z1 z2
 have hne1 : ¬ pa = w.heap.size := by omega
 have hne2 : ¬ w.heap.size = pa := by omega
 have hblm : bl ≤ 1024 := by have := H1.out; omega
 go_enter Tryz.func155, Tryz.ntmps155
 go_wp2_with (first | (go_at_call 139; refine (arena_valid pa _ h0).mono ?_; rintro e w' ⟨rfl, rfl⟩) | (go_at_call 192; refine (arena_next_fresh pa k slots _ h0 h5 h3 h2s hlt).mono ?_; rintro e w' ⟨rfl, nq, rfl⟩) | (at_builtin; (refine wpList_app1 rfl _ _ 196 rfl 209 (.pointer none) 8 Tryz.underlying196 Tryz.info209 rfl v bl xs rfl (((Eqv.drewN w nq).owns hown).alloc _ |>.alloc _) (w.heap.size + 1) (.pointer (some ⟨w.heap.size, 0, none⟩)) rfl (cell_new1 _ _ _ _ (by simp)) rfl (by omega) (by decide) ?_); intro g' cap' w1 hown1 hgrow1 hg1; (obtain ⟨f1, f2, f3, f4, f5, f6, f7, f8, f9⟩ := grow_facts pa bl v xs w _ w1 g' cap' (Eqv.drewN w nq) Hg.out hpa Hx.out hf hv hown1 hgrow1 hg1); clear hg1 hgrow1; have c0 := (f3.cell 0).trans z0; have c1 := (f3.cell 1).trans z1; have c2 := (f3.cell 2).trans z2; have c3 := f3.frozen; have F8 := Lib.hid f8; clear f8) | (go_at_call 141; refine (arena_at_r pa g' (bl + 1) cap' w.heap.size k 0 _ ?_ (by have := H1.out; omega) hi ?_ (by have := H2.out; omega)).mono ?_; go_simp; rw [H1.out]; go_simp; rintro e w' ⟨rfl, rfl⟩))
 go_ret2
 exact ⟨rfl, g', cap', w1, _, hown1, f7, f3, F8.out, Eqv.refl _⟩
theorem arena_free_w (pa g n cap b k used slots begun : Nat) (last aft tm : Int) (w : World) (hne : b ≠ pa) (h0 : w.cell? ⟨pa, 0, none⟩ = some (.pointer (some ⟨pa, 0, none⟩))) (h5 : w.cell? ⟨pa, 5, none⟩ = some (.int .i64 last))
    (h1 : w.cell? ⟨pa, 1, none⟩ = some (.slice (some ⟨g, 0, none⟩) n cap)) (hn : k / 64 < n) (hi : k < 65536) (h2s : w.cell? ⟨pa, 2, none⟩ = some (.int .i64 slots)) (hks : k < slots)
    (h3 : w.cell? ⟨pa, 3, none⟩ = some (.int .i64 begun)) (hkb : k < begun)
    (hga : g ≠ pa) (hgb : g ≠ b) (hf : ∀ j, w.frozen? ⟨pa, j, none⟩ = false) (hfb : ∀ j, w.frozen? ⟨b, j, none⟩ = false)
    (h2 : w.cell? ⟨g, k / 64, none⟩ = some (.pointer (some ⟨b, 0, none⟩))) (h4 : w.cell? ⟨pa, 4, none⟩ = some (.int .i64 used)) (hu : used < 65537) (hu0 : 0 < used)
    (hs0 : w.cell? ⟨b, k % 64 * 3, none⟩ = some (.int .i64 1)) (hs1 : w.cell? ⟨b, k % 64 * 3 + 1, none⟩ = some (.int .i64 aft)) (_hs2 : w.cell? ⟨b, k % 64 * 3 + 2, none⟩ = some (.int .u64 tm)) :
    Calls Tryz.prog 91 #[.pointer (some ⟨pa, 0, none⟩), .int .i64 k] w fun e w' => e = .returned (.int .i64 0) ∧ Eqv w' (((((w.setCell ⟨b, k % 64 * 3, none⟩ (.int .i64 2)).setCell ⟨b, k % 64 * 3 + 1, none⟩ (.int .i64 last)).setCell ⟨pa, 5, none⟩ (.int .i64 k))).setCell ⟨pa, 4, none⟩ (.int .i64 (used - 1))) := by
 go_enter Tryz.func91, Tryz.ntmps91
 go_wp2_with (first | (go_at_call 139; refine (arena_valid pa _ h0).mono ?_; rintro e w' ⟨rfl, rfl⟩) | (go_at_call 140; refine (arena_state_w pa g n cap b k begun 1 _ h1 hn hi h3 hkb h2 hs0).mono ?_; rintro e w' ⟨rfl, rfl⟩) | (go_at_call 141; refine (arena_at_w pa g n cap b k _ ?_ hn hi ?_).mono ?_; go_simp; go_simp; rintro e w' ⟨rfl, rfl⟩))
 go_ret
 exact ⟨rfl, rfl, rfl, rfl, rfl⟩
theorem arena_len_w (pa : Nat) (used : Int) (w : World) (h0 : w.cell? ⟨pa, 0, none⟩ = some (.pointer (some ⟨pa, 0, none⟩))) (h4 : w.cell? ⟨pa, 4, none⟩ = some (.int .i64 used)) :
    Calls Tryz.prog 96 #[.pointer (some ⟨pa, 0, none⟩)] w fun e w' => e = .returned (.int .i64 used) ∧ w = w' := by
 go_enter Tryz.func96, Tryz.ntmps96
 go_wp2_with (go_at_call 139; refine (arena_valid pa _ h0).mono ?_; rintro e w' ⟨rfl, rfl⟩)
 go_ret
 exact ⟨rfl, rfl⟩
theorem arena_new_no (slots : Int) (w : World) (h : slots < 0 ∨ 65536 < slots) :
    Calls Tryz.prog 163 #[.int .i64 slots] w fun e w' => e = .returned (.tuple #[.pointer none, .int .i64 2]) ∧ w = w' := by
 rcases h with h | h
 {
 have hd : decide (slots < 0) = true := decide_eq_true (by omega)
 go_enter Tryz.func163, Tryz.ntmps163
 go_wp2
 go_ret2
 exact ⟨rfl, rfl⟩
 }
 {
 have hd : decide (slots < 0) = false := decide_eq_false (by omega)
 have hd2 : decide (65536 < slots) = true := decide_eq_true (by omega)
 go_enter Tryz.func163, Tryz.ntmps163
 go_wp2
 go_ret2
 exact ⟨rfl, rfl⟩
 }
theorem arena_new_w (slots : Nat) (w : World) (h : slots ≤ 65536) :
    Calls Tryz.prog 163 #[.int .i64 slots] w fun e w' => e = .returned (.tuple #[.pointer (some ⟨w.heap.size, 0, none⟩), .int .i64 0]) ∧
      Eqv w' (w.alloc (.cells #[.pointer (some ⟨w.heap.size, 0, none⟩), .slice none 0 0, .int .i64 slots, .int .i64 0, .int .i64 0, .int .i64 (-1)] 198)) := by
 have hd : decide ((slots : Int) < 0) = false := decide_eq_false (by omega)
 have hd2 : decide (65536 < (slots : Int)) = false := decide_eq_false (by omega)
 go_enter Tryz.func163, Tryz.ntmps163
 go_wp2
 go_ret2
 exact ⟨rfl, rfl, rfl, rfl, rfl⟩
end Go.Proofs.YtgmnemndjjmgkaaGreat
