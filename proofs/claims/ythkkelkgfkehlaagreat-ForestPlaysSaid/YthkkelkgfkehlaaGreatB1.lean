/- A region that draws its order, of whose operations ONE changes the world (a call, a store, an append): one walk in the order of the text serves every order. -/
import Derived.Test.YthkkelkgfkehlaaGreatRows
import Derived.WalkKit
import Derived.WalkSpells
import Derived.WalkLawsBesides
import Derived.LaidEqlPtr
import Derived.Deep.QuietTactic
import Derived.BigQuiet
import Derived.Lib.Hide
import Derived.RangeFuncBox
import Derived.Maps.AppendAt
import Derived.ProofKit
import Derived.OpenShut
import Derived.ShutString
import Derived.Deep.Slices
import Derived.ChangeSame
import Derived.Deep.Quiet
/- Small facts on blocks of memory and on what a call leaves alone; used by all walks of this seat. -/
namespace Go.Proofs.YthkkelkgfkehlaaGreat
open Go.RowKit

/-- Block b is a row of cells of type t that reads l; nothing of it is frozen. -/
def Blk (w : World) (b : Nat) (t : TypeId) (l : List Value) : Prop := w.heap[b]? = some (.cells l.toArray t (0, 0))

section
variable {w : World} {b : Nat} {t : TypeId} {l : List Value}
theorem Blk.cell (h : Blk w b t l) (i : Nat) : w.cell? ⟨b, i, none⟩ = l[i]? := by
  unfold Blk at h; simp [World.cell?, h]
theorem Blk.frozen (h : Blk w b t l) (i : Nat) : w.frozen? ⟨b, i, none⟩ = false := by
  unfold Blk at h; simp [World.frozen?, h]
theorem Blk.lt (h : Blk w b t l) : b < w.heap.size := (Array.getElem?_eq_some_iff.1 h).1
theorem Blk.of_same {w' : World} (h : Blk w b t l) (e : w'.heap[b]? = w.heap[b]?) : Blk w' b t l := e.trans h
theorem Blk.alloc (h : Blk w b t l) (o : Obj) : Blk (w.alloc o) b t l := h.of_same (Below.heap_alloc w o b h.lt)
theorem Blk.drew (h : Blk w b t l) : Blk w.drew b t l := h
theorem Blk.drewN (h : Blk w b t l) (n : Nat) : Blk (w.drewN n) b t l := h
theorem Blk.other (h : Blk w b t l) (a : Addr) (u : Value) (hne : b ≠ a.block) : Blk (w.setCell a u) b t l :=
  h.of_same (Below.heap_setCell w a u b hne)
theorem Blk.set (h : Blk w b t l) (i : Nat) (u : Value) : Blk (w.setCell ⟨b, i, none⟩ u) b t (l.set i u) := by
  have hb := h.lt
  unfold Blk at *
  simp only [World.setCell, Array.getElem?_modify]
  simp [h]
theorem Blk.new (w : World) (l : List Value) (t : TypeId) : Blk (w.alloc (.cells l.toArray t)) w.heap.size t l := by
  show (w.heap.push _)[w.heap.size]? = _
  simp
theorem Blk.eq {l' : List Value} {t' : TypeId} (h : Blk w b t l) (h' : Blk w b t' l') : l = l' := by
  unfold Blk at *; rw [h] at h'; simp at h'; exact h'.1
end

/-- Only the blocks of S, and new ones, may have changed from w to w'. -/
structure Fr (S : List Nat) (w w' : World) : Prop where
  os : w'.os = w.os
  tape : w'.tape = w.tape
  output : w'.output = w.output
  size : w.heap.size ≤ w'.heap.size
  keep : ∀ k, k < w.heap.size → k ∉ S → w'.heap[k]? = w.heap[k]?

section
variable {S : List Nat} {w w' w'' : World}
theorem Fr.refl (S : List Nat) (w : World) : Fr S w w := ⟨rfl, rfl, rfl, Nat.le_refl _, fun _ _ _ => rfl⟩
theorem Fr.trans {S' : List Nat} (h : Fr S w w') (k : Fr S' w' w'') (hs : ∀ b ∈ S', b ∈ S ∨ w.heap.size ≤ b) : Fr S w w'' :=
  ⟨k.os.trans h.os, k.tape.trans h.tape, k.output.trans h.output, Nat.le_trans h.size k.size, fun i hi hn =>
    (k.keep i (Nat.lt_of_lt_of_le hi h.size) (fun hm => (hs i hm).elim hn (fun h => by omega))).trans (h.keep i hi hn)⟩
theorem Fr.trans' (h : Fr S w w') (k : Fr S w' w'') : Fr S w w'' := h.trans k (fun _ hb => .inl hb)
theorem Fr.mono {S' : List Nat} (h : Fr S w w') (hs : ∀ b ∈ S, b ∈ S' ∨ w.heap.size ≤ b) : Fr S' w w' :=
  ⟨h.os, h.tape, h.output, h.size, fun k hk hn => h.keep k hk (fun hm => (hs k hm).elim hn (fun h => by omega))⟩
theorem Fr.drew (h : Fr S w w') : Fr S w w'.drew := ⟨h.os, h.tape, h.output, h.size, h.keep⟩
theorem Fr.drewN (h : Fr S w w') (n : Nat) : Fr S w (w'.drewN n) := ⟨h.os, h.tape, h.output, h.size, h.keep⟩
theorem Fr.alloc (h : Fr S w w') (o : Obj) : Fr S w (w'.alloc o) :=
  h.trans' ⟨rfl, rfl, rfl, by simp, fun k hk _ => Below.heap_alloc _ _ _ hk⟩
theorem Fr.setCell (h : Fr S w w') (a : Addr) (u : Value) (ha : a.block ∈ S ∨ w.heap.size ≤ a.block) : Fr S w (w'.setCell a u) :=
  h.trans (S' := [a.block]) ⟨rfl, rfl, rfl, by simp [World.setCell], fun k _ hn => Below.heap_setCell _ _ _ _ (by simpa using hn)⟩
    (fun b hb => by simp at hb; subst hb; exact ha)
theorem Fr.grown {row : Option Nat} (h : Fr S w w') (hg : w'.grownBy w'' row) (hr : ∀ k, row = some k → k ∈ S ∨ w.heap.size ≤ k) : Fr S w w'' :=
  h.trans (S' := row.toList) ⟨hg.os, hg.tape, hg.output, hg.size, fun k hk hn => hg.block k hk (fun e => hn (by simp [← e]))⟩
    (fun b hb => hr b (by simpa using hb))
theorem Fr.below (h : Fr S w w') (hs : ∀ b ∈ S, w.heap.size ≤ b) : Below w.heap.size w w' :=
  ⟨h.os, h.tape, h.output, h.size, fun k hk => h.keep k hk (fun hm => by have := hs k hm; omega)⟩
theorem Fr.of_below (h : Below w.heap.size w w') : Fr [] w w' := ⟨h.os, h.tape, h.output, h.size, fun k hk _ => h.block k hk⟩
theorem Fr.blk {b : Nat} {t : TypeId} {l : List Value} (h : Fr S w w') (hb : Blk w b t l) (hn : b ∉ S) : Blk w' b t l :=
  hb.of_same (h.keep b hb.lt hn)
end

theorem cell_lt {w : World} {a : Addr} {v : Value} (h : w.cell? a = some v) : a.block < w.heap.size := by
  by_cases hb : a.block < w.heap.size
  · exact hb
  · have : w.heap[a.block]? = none := Array.getElem?_eq_none (by omega)
    simp [World.cell?, this] at h
theorem Fr.cell {S : List Nat} {w w' : World} {a : Addr} {v : Value} (h : Fr S w w') (hc : w.cell? a = some v) (hn : a.block ∉ S) : w'.cell? a = some v :=
  (World.cell?_of_block (w := w) (h.keep _ (cell_lt hc) hn)).trans hc

/-- The same memory; only the count of draws may differ. -/
structure Eqv (w' w : World) : Prop where
  heap : w'.heap = w.heap
  os : w'.os = w.os
  tape : w'.tape = w.tape
  output : w'.output = w.output
theorem Eqv.refl (w : World) : Eqv w w := ⟨rfl, rfl, rfl, rfl⟩
theorem Eqv.drewN (w : World) (n : Nat) : Eqv (w.drewN n) w := ⟨rfl, rfl, rfl, rfl⟩
theorem Eqv.drew (w : World) : Eqv w.drew w := ⟨rfl, rfl, rfl, rfl⟩
theorem Eqv.trans {a b c : World} (h : Eqv a b) (k : Eqv b c) : Eqv a c := ⟨h.heap.trans k.heap, h.os.trans k.os, h.tape.trans k.tape, h.output.trans k.output⟩
theorem Eqv.blk {w' w : World} (h : Eqv w' w) {b : Nat} {t : TypeId} {l : List Value} (hb : Blk w b t l) : Blk w' b t l := by
  unfold Blk at *; rw [h.heap]; exact hb
theorem Eqv.fr {w' w w0 : World} (h : Eqv w' w) {S : List Nat} (hf : Fr S w0 w) : Fr S w0 w' :=
  ⟨h.os.trans hf.os, h.tape.trans hf.tape, h.output.trans hf.output, by rw [h.heap]; exact hf.size, by rw [h.heap]; exact hf.keep⟩
theorem Eqv.cell {w' w : World} (h : Eqv w' w) (a : Addr) : w'.cell? a = w.cell? a := by simp [World.cell?, h.heap]
theorem Eqv.frozen {w' w : World} (h : Eqv w' w) (a : Addr) : w'.frozen? a = w.frozen? a := by simp [World.frozen?, h.heap]
theorem Eqv.owns {w' w : World} (h : Eqv w' w) {base : Nat} {e : TypeId} {size : Nat} {v : Value} {n : Nat} {xs : List Value}
    (k : w.ownsRow base e size v n xs) : w'.ownsRow base e size v n xs := by unfold World.ownsRow at *; rw [h.heap]; exact k

/-- An owned row moves on with its block. -/
theorem ownsRow_same {w w' : World} {base : Nat} {e : TypeId} {size : Nat} {v : Value} {n : Nat} {xs : List Value}
    (h : w.ownsRow base e size v n xs) (hs : ∀ k, v.ownBlock = some k → w'.heap[k]? = w.heap[k]?) : w'.ownsRow base e size v n xs := by
  obtain ⟨h1, h2⟩ := h
  refine ⟨h1, ?_⟩
  rcases h2 with h2 | ⟨g, cap, cur, rfl, hg, hh, r⟩
  · exact Or.inl h2
  · exact Or.inr ⟨g, cap, cur, rfl, hg, by rw [hs g rfl]; exact hh, r⟩

/-- A cell of an owned row of one-cell elements. -/
theorem ownsRow_at {w : World} {base : Nat} {e : TypeId} {v : Value} {n : Nat} {xs : List Value} (h : w.ownsRow base e 1 v n xs) {i : Nat} (hi : i < n) :
    ∃ g cap, v = .slice (some ⟨g, 0, none⟩) n cap ∧ n ≤ cap ∧ g < w.heap.size ∧ w.cell? ⟨g, i, none⟩ = xs[i]? ∧ (∀ j, w.frozen? ⟨g, j, none⟩ = false) := by
  obtain ⟨h1, h2⟩ := h
  rcases h2 with ⟨_, h2⟩ | ⟨g, cap, cur, rfl, _, hh, hn, hm, hsz, hxs⟩
  · omega
  · refine ⟨g, cap, rfl, hn, (Array.getElem?_eq_some_iff.1 hh).1, ?_, fun j => by simp [World.frozen?, hh]⟩
    subst hxs
    simp only [World.cell?, hh]
    simp [hi]

theorem ownsRow_slice {w : World} {base : Nat} {e : TypeId} {size : Nat} {v : Value} {n : Nat} {xs : List Value} (h : w.ownsRow base e size v n xs) : ∃ a cap, v = .slice a n cap := by
  rcases h.2 with ⟨rfl, rfl⟩ | ⟨g, cap, cur, rfl, _⟩
  · exact ⟨_, _, rfl⟩
  · exact ⟨_, _, rfl⟩
/-- A store into an owned row of one-cell elements. -/
theorem ownsRow_set {w : World} {e : TypeId} {g n cap i : Nat} {xs : List Value} (h : w.ownsRow 0 e 1 (.slice (some ⟨g, 0, none⟩) n cap) n xs) (_hi : i < n) (u : Value) :
    (w.setCell ⟨g, i, none⟩ u).ownsRow 0 e 1 (.slice (some ⟨g, 0, none⟩) n cap) n (xs.set i u) := by
  obtain ⟨h1, h2⟩ := h
  refine ⟨by simpa using h1, ?_⟩
  rcases h2 with ⟨h2, _⟩ | ⟨g', cap', cur, e1, _, hh, hn, hm, hsz, hxs⟩
  · cases h2
  · simp only [Value.slice.injEq, Option.some.injEq, Addr.mk.injEq, and_true, true_and] at e1
    obtain ⟨rfl, rfl⟩ := e1
    refine .inr ⟨g, cap, cur.setIfInBounds i u, rfl, Nat.zero_le _, ?_, hn, hm, by simpa using hsz, ?_⟩
    · simp only [World.setCell, Array.getElem?_modify]
      simp [hh]
    · rw [← hxs, Array.toList_setIfInBounds, Nat.mul_one, List.take_set]
theorem ownsRow_other {w : World} {base : Nat} {e : TypeId} {size : Nat} {v : Value} {n : Nat} {xs : List Value} (h : w.ownsRow base e size v n xs) (a : Addr) (u : Value) (hn : v.ownBlock ≠ some a.block) :
    (w.setCell a u).ownsRow base e size v n xs :=
  ownsRow_same h fun _k hk => Below.heap_setCell _ _ _ _ (fun e => hn (e ▸ hk))

theorem ret_int {k : IntKind} {a b : Int} (h : a = b) : Ending.returned (.int k a) = .returned (.int k b) := by rw [h]

theorem cell_new1 (W : World) (n : Nat) (u : Value) (t : TypeId) (h : W.heap.size = n) : (W.alloc (.cells #[u] t)).cell? ⟨n, 0, none⟩ = some u := by
  subst h; simp

/-- 'append(s, x..)' on a row of one's own: the new row lies in the old block or in a new one. -/
theorem run_app {P : Program} (w : World) (t ty e : TypeId) (i : TypeInfo) (z : Value) (size bytes : Nat) (ht : P.underlying t = some (.slice e)) (hi : P.info? e = some i) (hz : i.zero = some z)
    (hsize : i.size = size) (hby : i.bytes = bytes) (hzs : z.cells.size = size) (hsz : 0 < size)
    (v : Value) (n : Nat) (xs : List Value) (hown : w.ownsRow 0 e size v n xs)
    (a : Addr) (m c : Nat) (news : List Value) (hl : news.length = m * size) (hnews : ∀ j u, news[j]? = some u → w.cell? (a.add j) = some u) (h1 : ∀ u ∈ news, u.oneCell' = true)
    (hm : 0 < m) (h63 : n + m ≤ maxLen) (hbytes : (n + m) * bytes ≤ 140737488355328) :
    ∃ g cap w', (Builtin.append_ #[t, t] ty #[v, .slice (some a) m c]).run P w = .ok (.slice (some ⟨g, 0, none⟩) (n + m) cap) w' ∧ w'.ownsRow 0 e size (.slice (some ⟨g, 0, none⟩) (n + m) cap) (n + m) (xs ++ news) ∧
      w.grownBy w' v.ownBlock ∧ (v.ownBlock = some g ∨ w.heap.size ≤ g) := by
  obtain ⟨v', w', hr, h2, h3, _⟩ := run_append_own (P := P) w 0 t ty e i z size bytes ht hi hz hsize hby hzs hsz v n xs hown a m c news hl hnews h1 h63 hbytes (Nat.zero_le _)
  rcases hown.2 with ⟨rfl, rfl⟩ | ⟨g, cap, cur, rfl, _, hg, hnc, hcm, hcs, htake⟩
  · obtain ⟨v2, w2, hr2, h22, _, _⟩ := run_append_own (P := P) w w.heap.size t ty e i z size bytes ht hi hz hsize hby hzs hsz (.slice none 0 0) 0 xs ⟨hown.1, .inl ⟨rfl, rfl⟩⟩ a m c news hl hnews h1 h63 hbytes (Nat.le_refl _)
    rw [hr] at hr2
    simp only [Result.ok.injEq] at hr2
    obtain ⟨rfl, rfl⟩ := hr2
    rcases h22.2 with ⟨_, h0⟩ | ⟨g, cap, cur, rfl, hgb, _⟩
    · omega
    · exact ⟨g, cap, _, hr, h2, h3, .inr hgb⟩
  · by_cases hroom : n + m ≤ cap
    · have hfit : n * i.size + news.length ≤ cur.size := by rw [hl, hcs, hsize, ← Nat.add_mul]; exact Nat.mul_le_mul_right _ hroom
      have hr2 := run_append_room (P := P) w t ty e i ht hi g n cap cur hg a m c news (by rw [hsize]; exact hl) hnews h1 hroom hfit
      rw [hr] at hr2
      simp only [Result.ok.injEq] at hr2
      obtain ⟨rfl, rfl⟩ := hr2
      exact ⟨g, cap, _, hr, h2, h3, .inl rfl⟩
    · have holds : ∀ j u, xs[j]? = some u → w.cell? ((⟨g, 0, none⟩ : Addr).add j) = some u := hown.cells (g := g) rfl
      obtain ⟨v2, w2, hr2, h22, _⟩ := run_append_arg_grows (P := P) w t ty e i z size bytes ht hi hz hsize hby hzs hsz ⟨g, 0, none⟩ n cap xs hown.1 holds a m c news hl hnews (by omega) h63 hbytes
      rw [hr] at hr2
      simp only [Result.ok.injEq] at hr2
      obtain ⟨rfl, rfl⟩ := hr2
      rcases h22.2 with ⟨_, h0⟩ | ⟨g', cap', cur', rfl, hgb, _⟩
      · omega
      · exact ⟨g', cap', _, hr, h2, h3, .inr hgb⟩

theorem wpList_app {P : Program} {w : World} {ops : Array Oper} {rest : List Oper} {o : Oper} {a : Act} {Q : Exit → Act → World → Prop} (hgd : o.guard = none) (s x : Operand) (t : TypeId)
    (ho : o.op = .call { callee := .builtin .append, args := #[s, x], argTypes := #[t, t] })
    (e : TypeId) (i : TypeInfo) (z : Value) (size bytes : Nat) (ht : P.underlying t = some (.slice e)) (hi : P.info? e = some i) (hz : i.zero = some z)
    (hsize : i.size = size) (hby : i.bytes = bytes) (hzs : z.cells.size = size) (hsz : 0 < size)
    (v : Value) (n : Nat) (xs : List Value) (hs : a.eval s = v) (hown : w.ownsRow 0 e size v n xs)
    (ad : Addr) (m c : Nat) (news : List Value) (hx : a.eval x = .slice (some ad) m c) (hl : news.length = m * size) (hnews : ∀ j u, news[j]? = some u → w.cell? (ad.add j) = some u) (h1 : ∀ u ∈ news, u.oneCell' = true)
    (hm : 0 < m) (h63 : n + m ≤ maxLen) (hbytes : (n + m) * bytes ≤ 140737488355328)
    (h : ∀ g cap w', w'.ownsRow 0 e size (.slice (some ⟨g, 0, none⟩) (n + m) cap) (n + m) (xs ++ news) → w.grownBy w' v.ownBlock → (v.ownBlock = some g ∨ w.heap.size ≤ g) →
      wpList P ops Q rest (a.put o.dst (.slice (some ⟨g, 0, none⟩) (n + m) cap)) w') : wpList P ops Q (o :: rest) a w := by
  refine wpList_plain hgd fun K hK => ?_
  obtain ⟨g, cap, w', hr, h2, h3, h4⟩ := run_app (P := P) w t o.type e i z size bytes ht hi hz hsize hby hzs hsz v n xs hown ad m c news hl hnews h1 hm h63 hbytes
  unfold Oper.wp execOp
  simp only [ho, resolve, invoke, builtin, Sem.run_bind, Sem.run_pure, Result.andThen_ok, List.map_toArray, List.map_cons, List.map_nil, hs, hx, hr]
  exact hK _ _ (h g cap w' h2 h3 h4)

/-- 'append(s, x)': one element of one cell; x lies in a block of its own. -/
theorem wpList_app1 {P : Program} {w : World} {ops : Array Oper} {rest : List Oper} {o : Oper} {a : Act} {Q : Exit → Act → World → Prop} (hgd : o.guard = none) (s x : Operand) (t : TypeId)
    (ho : o.op = .call { callee := .builtin .append, args := #[s, x], argTypes := #[t, t] })
    (e : TypeId) (z : Value) (bytes : Nat) (ht : P.underlying t = some (.slice e)) (hinfo : (P.info? e).map (fun i => (i.zero, i.size, i.bytes)) = some (some z, 1, bytes)) (hzs : z.cells.size = 1)
    (v : Value) (n : Nat) (xs : List Value) (hs : a.eval s = v) (hown : w.ownsRow 0 e 1 v n xs)
    (b : Nat) (u : Value) (hx : a.eval x = .slice (some ⟨b, 0, none⟩) 1 1) (hu : w.cell? ⟨b, 0, none⟩ = some u) (hu1 : u.oneCell' = true)
    (hn : n + 1 ≤ 4294967296) (hby : bytes ≤ 1024)
    (h : ∀ g cap w', w'.ownsRow 0 e 1 (.slice (some ⟨g, 0, none⟩) (n + 1) cap) (n + 1) (xs ++ [u]) → w.grownBy w' v.ownBlock → (v.ownBlock = some g ∨ w.heap.size ≤ g) →
      wpList P ops Q rest (a.put o.dst (.slice (some ⟨g, 0, none⟩) (n + 1) cap)) w') : wpList P ops Q (o :: rest) a w := by
  obtain ⟨i0, hi, hz0, hz1, hz2⟩ := info_parts hinfo
  refine wpList_app hgd s x t ho e i0 z 1 bytes ht hi hz0 hz1 hz2 hzs (by decide) v n xs hs hown ⟨b, 0, none⟩ 1 1 [u] hx rfl ?_ ?_ (by decide) (by unfold maxLen; omega) ?_ h
  · intro j x hj
    cases j with
    | zero => simp at hj; subst hj; exact hu
    | succ j => simp at hj
  · simp [hu1]
  · have : (n + 1) * bytes ≤ 4294967296 * 1024 := Nat.mul_le_mul hn hby
    omega

end Go.Proofs.YthkkelkgfkehlaaGreat

/- How the arguments of the laws read: slices of integers. -/
namespace Go.Proofs.YthkkelkgfkehlaaGreat
open Go.ChangeShapes Go.WideShapes Go.ChangeAt Go.RowKit

/-- What a walk is told of a slice of integers that came in: nil, or a row of cells that reads zs. -/
def IsRow (k : IntKind) (w : World) (a : Option Addr) (len cap : Nat) (zs : List Int) : Prop :=
  (a = none ∧ len = 0 ∧ cap = 0 ∧ zs = []) ∨
  ∃ x, a = some x ∧ len ≤ cap ∧ cap ≤ maxLen ∧ zs.length = cap ∧ (∀ i, i < zs.length → w.cell? (x.add i) = some (.int k (zs.getD i 0))) ∧ ∀ n ∈ zs, (Lit.int k n).wf = true

theorem open_row {H : Type} {enc : TypeId × Value → H} {W : World} {t e : TypeId} {k : IntKind} {a : Option Addr} {len cap : Nat} {d : DataW H} {p : List MemPlace}
    (ht : Tryz.prog.underlying t = some (.slice e)) (he : Tryz.prog.underlying e = some (.int k)) (hc : Tryz.prog.cellsOf e = 1)
    (h : DataW.Trod enc Tryz.prog W 0 (fun _ => true) true t (.slice a len cap) d p) : ∃ zs, IsRow k W a len cap zs := by
  obtain ⟨fuel, hf⟩ := h
  rcases open_ints ht he hc hf with ⟨hcs, _⟩ | ⟨x, l, c, zs, hcs, _, hl, hm, hz, _, hcell, hwz⟩
  · simp [Value.cells] at hcs
    obtain ⟨rfl, rfl, rfl⟩ := hcs
    exact ⟨[], .inl ⟨rfl, rfl, rfl, rfl⟩⟩
  · simp [Value.cells] at hcs
    obtain ⟨rfl, rfl, rfl⟩ := hcs
    exact ⟨zs, .inr ⟨_, rfl, hl, hm, by simpa using hz, hcell, hwz⟩⟩

end Go.Proofs.YthkkelkgfkehlaaGreat

/- How values of flat types (structs of integers and bools) and slices of them read. -/
namespace Go.Proofs.YthkkelkgfkehlaaGreat
open Go.ChangeShapes Go.WideShapes Go.ChangeAt Go.RowKit Go.Deep

/-- The kind of a cell. -/
inductive FK where
  | i (k : IntKind)
  | b
def FK.ok : FK → Value → Prop
  | .i k, v => ∃ n : Int, v = .int k n ∧ (Lit.int k n).wf = true
  | .b, v => ∃ x : Bool, v = .bool x

/-- A type whose values are cells of these kinds. -/
def Flat (P : Program) (t : TypeId) (ks : List FK) : Prop :=
  P.cellsOf t = ks.length ∧ ∀ {H : Type} {enc : TypeId × Value → H} {w : World} {base : Nat} {spare : Nat → Bool} {held : Bool} {fuel : Nat} {cs : List Value} {x : DataW H × List MemPlace},
    DataW.trod enc P w base spare held fuel t cs = some x → ∀ (j : Nat) (k : FK), ks[j]? = some k → ∃ v, cs[j]? = some v ∧ k.ok v

theorem Flat.int {P : Program} {t : TypeId} {k : IntKind} (ht : P.underlying t = some (.int k)) (hc : P.cellsOf t = 1) : Flat P t [.i k] := by
  refine ⟨hc, fun h j k' hj => ?_⟩
  obtain ⟨n, rfl, _, hw⟩ := DataW.trod_int ht h
  cases j with
  | zero => simp at hj; subst hj; exact ⟨_, rfl, n, rfl, hw⟩
  | succ j => simp at hj
theorem Flat.bool {P : Program} {t : TypeId} (ht : P.underlying t = some .bool) (hc : P.cellsOf t = 1) : Flat P t [.b] := by
  refine ⟨hc, fun h j k' hj => ?_⟩
  obtain ⟨n, rfl, _⟩ := DataW.trod_bool ht h
  cases j with
  | zero => simp at hj; subst hj; exact ⟨_, rfl, n, rfl⟩
  | succ j => simp at hj
theorem Flat.struct {P : Program} {t : TypeId} {fs : Array Field} {ks : List FK} (ht : P.underlying t = some (.struct fs)) (hc : P.cellsOf t = ks.length)
    (hcov : ∀ (j : Nat) (k : FK), ks[j]? = some k → ∃ (i : Nat) (f : Field) (fk : List FK), fs[i]? = some f ∧ Flat P f.type fk ∧ f.offset ≤ j ∧ fk[j - f.offset]? = some k) : Flat P t ks := by
  refine ⟨hc, fun h j k hj => ?_⟩
  obtain ⟨xs, n, _, _, hl, hlen, hf⟩ := DataW.trod_struct ht h
  obtain ⟨i, f, fk, hi, hfl, hoff, hk⟩ := hcov j k hj
  have h1 := hf i f hi
  have hil : i < xs.length := by rw [hlen]; exact (Array.getElem?_eq_some_iff.1 hi).1
  rw [List.getElem?_eq_getElem hil] at h1
  obtain ⟨v, hv, hok⟩ := hfl.2 h1 (j - f.offset) k hk
  refine ⟨v, ?_, hok⟩
  rw [List.getElem?_take] at hv
  split at hv
  · rw [List.getElem?_drop] at hv
    rw [← hv]; congr 1; omega
  · cases hv

theorem cell_no_spot' {W : World} {y : Addr} {v : Value} (h : W.cell? y = some v) : y.spot = none := by
  unfold World.cell? at h
  split at h
  · by_cases hs : y.spot.isSome = true
    · rw [if_pos hs] at h; cases h
    · cases hy : y.spot with
      | none => rfl
      | some s => rw [hy] at hs; exact absurd rfl hs
  · cases h

/-- A slice of flat elements: z i j is cell j of element i. -/
def FlatF (w : World) (a : Option Addr) (len : Nat) (ks : List FK) (z : Nat → Nat → Value) : Prop :=
  len ≤ 9223372036854775807 ∧ ∀ i, i < len → ∃ b off, a = some ⟨b, off, none⟩ ∧ b < w.heap.size ∧ ∀ (j : Nat) (k : FK), ks[j]? = some k → w.cell? ⟨b, off + i * ks.length + j, none⟩ = some (z i j) ∧ k.ok (z i j)
theorem FlatF.below {w w' : World} {a : Option Addr} {len : Nat} {ks : List FK} {z : Nat → Nat → Value} (h : FlatF w a len ks z) (hb : Below w.heap.size w w') : FlatF w' a len ks z := by
  refine ⟨h.1, fun i hi => ?_⟩
  obtain ⟨b, off, rfl, hlt, h1⟩ := h.2 i hi
  exact ⟨b, off, rfl, Nat.lt_of_lt_of_le hlt hb.size, fun j k hj => ⟨(hb.cell (p := ⟨b, off + i * ks.length + j, none⟩) hlt).trans (h1 j k hj).1, (h1 j k hj).2⟩⟩

theorem open_flat {H : Type} {enc : TypeId × Value → H} {W : World} {P : Program} {t e : TypeId} {ks : List FK} (ht : P.underlying t = some (.slice e)) (he : Flat P e ks) (hks : 0 < ks.length) {a : Option Addr} {len cap : Nat} {d : DataW H} {p : List MemPlace}
    (h : DataW.Trod enc P W 0 (fun _ => true) true t (.slice a len cap) d p) : ∃ z, FlatF W a len ks z := by
  obtain ⟨fuel, hf⟩ := h
  rcases open_slice ht hf with ⟨hcs, _⟩ | ⟨x, l, c, m, n, D, Pl, hcs, _, hl, hm, hmm, _, hel⟩
  · simp [Value.cells] at hcs
    obtain ⟨rfl, rfl, rfl⟩ := hcs
    exact ⟨fun _ _ => undef, by omega, fun i hi => absurd hi (Nat.not_lt_zero _)⟩
  · simp [Value.cells] at hcs
    obtain ⟨rfl, rfl, rfl⟩ := hcs
    have hml : len ≤ m := by rw [hmm]; simpa using hl
    have key : ∀ i, ∃ u : Nat → Value, i < len → ∀ (j : Nat) (k : FK), ks[j]? = some k → W.cell? ((x.add (i * ks.length)).add j) = some (u j) ∧ k.ok (u j) := by
      intro i
      by_cases hi : i < len
      · obtain ⟨cs', hc, ht⟩ := hel i (by omega)
        rw [he.1] at hc
        obtain ⟨_, _, hat⟩ := World.cells?_some hc
        refine ⟨fun j => cs'.getD j undef, fun _ j k hj => ?_⟩
        obtain ⟨v, hv, hok⟩ := he.2 ht j k hj
        have hjl : j < ks.length := (List.getElem?_eq_some_iff.1 hj).1
        have e1 : cs'.getD j undef = v := by rw [List.getD_eq_getElem?_getD, hv]; rfl
        show W.cell? ((x.add (i * ks.length)).add j) = some (cs'.getD j undef) ∧ k.ok (cs'.getD j undef)
        rw [e1]
        exact ⟨(hat j hjl).trans hv, hok⟩
      · exact ⟨fun _ => undef, fun h => absurd h hi⟩
    obtain ⟨F, hF⟩ := Classical.axiomOfChoice key
    refine ⟨F, by unfold maxLen at hm; omega, fun i hi => ?_⟩
    have hne : ∃ k, ks[0]? = some k := ⟨_, List.getElem?_eq_getElem hks⟩
    obtain ⟨k0, hk0⟩ := hne
    have hsp := cell_no_spot' (hF 0 (by omega) 0 k0 hk0).1
    have z0 : (x.add (0 * ks.length)).add 0 = x := by simp [Addr.add]
    rw [z0] at hsp
    obtain ⟨b, off, sp⟩ := x
    simp only at hsp
    subst hsp
    have h1 := hF i hi
    simp only [Addr.add_lit] at h1
    exact ⟨b, off, rfl, cell_lt (h1 0 k0 hk0).1, h1⟩

/-- A flat value that is handed over as such: an aggregate of its cells. -/
theorem open_agg {H : Type} {enc : TypeId × Value → H} {W : World} {P : Program} {t : TypeId} {fs : Array Field} {ks : List FK} {base : Nat} {v : Value} {d : DataW H} {p : List MemPlace} (ht : P.underlying t = some (.struct fs)) (he : Flat P t ks)
    (hv : Value.okWide P W .any base t v) (h : DataW.Trod enc P W 0 (fun _ => true) true t v d p) : ∃ cs : List Value, v = .agg cs.toArray ∧ cs.length = ks.length ∧ ∀ (j : Nat) (k : FK), ks[j]? = some k → ∃ u, cs[j]? = some u ∧ k.ok u := by
  obtain ⟨fuel, hf⟩ := h
  unfold Value.okWide at hv
  simp only [ht] at hv
  obtain ⟨cs, rfl, hsz, _⟩ := hv
  obtain ⟨xs, n, _, _, hl, hlen, _⟩ := DataW.trod_struct ht hf
  have h2 := he.2 hf
  simp only [Value.cells] at hl h2
  exact ⟨cs.toList, by simp, by rw [hl, he.1], h2⟩
end Go.Proofs.YthkkelkgfkehlaaGreat

namespace Go.Proofs.YthkkelkgfkehlaaGreat
open Go.RowKit

section
variable {P : Program} {ops : Array Oper} {md : Region.Mode} (G : Nat → Sem Next → Value → Prop)

/-- Operation number i comes up in the state a: G says what it yields. -/
def gOp (ops : Array Oper) (i : Nat) (K : Act → Prop) (a : Act) : Prop :=
  match ops[i]? with
  | none => K a
  | some o => if Region.wanted o (yielded ops a.tmps) then ∃ v, G i (execOp a.eval o) v ∧ K (a.put o.dst v) else K (a.put o.dst undef)

/-- The walk in the order of the text. -/
def gWalk (ops : Array Oper) (Q : Act → Prop) : Nat → List Oper → Act → Prop
  | _, [], a => Q a
  | k, o :: rest, a => if Region.wanted o (yielded ops a.tmps) then ∃ v, G k (execOp a.eval o) v ∧ gWalk ops Q (k + 1) rest (a.put o.dst v) else gWalk ops Q (k + 1) rest (a.put o.dst undef)

/-- Whatever order is picked from here on. -/
def gAny (md : Region.Mode) (ops : Array Oper) (Q : Act → Prop) : Nat → Array Bool → Act → Prop
  | 0, listed, a => Region.ready md ops listed = [] ∧ Q a
  | fuel + 1, listed, a =>
    (Region.ready md ops listed = [] → Q a) ∧ ∀ i ∈ Region.ready md ops listed, gOp G ops i (gAny md ops Q fuel (listed.setIfInBounds i true)) a

variable {G}

def gYields (G : Nat → Sem Next → Value → Prop) (ops : Array Oper) (i : Nat) (o : Oper) (v : Value) (a : Act) : Prop :=
  (Region.wanted o (yielded ops a.tmps) = true ∧ G i (execOp a.eval o) v) ∨ (Region.wanted o (yielded ops a.tmps) = false ∧ v = undef)

theorem gYields.op {i : Nat} {o : Oper} {v : Value} {a : Act} (hi : ops[i]? = some o) (hy : gYields G ops i o v a) {K : Act → Prop} (h : K (a.put o.dst v)) : gOp G ops i K a := by
  unfold gOp
  simp only [hi]
  rcases hy with ⟨hw, hv⟩ | ⟨hw, rfl⟩
  · rw [if_pos hw]; exact ⟨v, hv, h⟩
  · rw [if_neg (by simp [hw])]; exact h

theorem gYields.same {i : Nat} {o : Oper} {v : Value} {a a' : Act} (hy : gYields G ops i o v a) (he : execOp a'.eval o = execOp a.eval o)
    (hw : Region.wanted o (yielded ops a'.tmps) = Region.wanted o (yielded ops a.tmps)) : gYields G ops i o v a' := by
  unfold gYields at *; rw [he, hw]; exact hy

theorem gOp_mono {i : Nat} {a : Act} {K K' : Act → Prop} (h : ∀ a, K a → K' a) (hh : gOp G ops i K a) : gOp G ops i K' a := by
  unfold gOp at *
  cases ho : ops[i]? with
  | none => simp only [ho] at hh ⊢; exact h _ hh
  | some o =>
    simp only [ho] at hh ⊢
    by_cases hw : Region.wanted o (yielded ops a.tmps) = true
    · rw [if_pos hw] at *; obtain ⟨v, h1, h2⟩ := hh; exact ⟨v, h1, h _ h2⟩
    · rw [if_neg hw] at *; exact h _ hh

theorem gYields_of_op {i : Nat} {o : Oper} {a : Act} {K : Act → Prop} (hi : ops[i]? = some o) (h : gOp G ops i K a) : ∃ v, gYields G ops i o v a ∧ K (a.put o.dst v) := by
  unfold gOp at h
  simp only [hi] at h
  by_cases hw : Region.wanted o (yielded ops a.tmps) = true
  · rw [if_pos hw] at h
    obtain ⟨v, h1, h2⟩ := h
    exact ⟨v, .inl ⟨hw, h1⟩, h2⟩
  · rw [if_neg hw] at h
    exact ⟨undef, .inr ⟨by simpa using hw, rfl⟩, h⟩

theorem gOp_put {i j : Nat} {oi oj : Oper} {v : Value} (hj : ops[j]? = some oj) (hap : oi.apart ops oj = true)
    (hsi : ∀ cs b, oi.op ≠ .select cs b) (hsj : ∀ cs b, oj.op ≠ .select cs b) {K : Act → Prop} {a : Act}
    (hy : gYields G ops i oi v a) (h : gOp G ops j K (a.put oi.dst v)) :
    gOp G ops j (fun a' => gYields G ops i oi v a' ∧ K (a'.put oi.dst v)) a := by
  obtain ⟨h1, h2, h3⟩ := Oper.apart_spec hap
  have keep : ∀ (a : Act), gYields G ops i oi v a → ∀ u, gYields G ops i oi v (a.put oj.dst u) := fun a hy u =>
    hy.same (execOp_put oi hsi a oj.dst u h3) (wanted_put oi a oj.dst u h3)
  unfold gOp at *
  simp only [hj] at *
  rw [wanted_put oj a oi.dst v h1] at h
  by_cases hw : Region.wanted oj (yielded ops a.tmps) = true
  · rw [if_pos hw] at *
    obtain ⟨u, hu, hn⟩ := h
    rw [execOp_put oj hsj a oi.dst v h1] at hu
    exact ⟨u, hu, keep a hy u, by rw [← Act.put_comm a v u h2]; exact hn⟩
  · rw [if_neg hw] at *
    exact ⟨keep a hy _, by rw [← Act.put_comm a v undef h2]; exact h⟩

theorem gAny_first {Q : Act → Prop} {i : Nat} {oi : Oper} {v : Value} (hi : ops[i]? = some oi) (hsel : ∀ (j : Nat) (o : Oper) cs b, ops[j]? = some o → o.op ≠ .select cs b) :
    ∀ (fuel : Nat) (listed : Array Bool) (a : Act),
      (∀ j oj, ops[j]? = some oj → j ≠ i → listed.getD j true = false → (∀ e ∈ oj.after, Region.binds md e = true → e.on ≠ i) → oi.apart ops oj = true) →
      i ∈ Region.ready md ops listed → gYields G ops i oi v a →
      gAny G md ops Q fuel (listed.setIfInBounds i true) (a.put oi.dst v) → gAny G md ops Q (fuel + 1) listed a := by
  intro fuel
  induction fuel with
  | zero =>
    intro listed a _ hr hy H
    refine ⟨fun h => (by rw [h] at hr; cases hr), fun j hj => ?_⟩
    by_cases hji : j = i
    · subst hji; exact hy.op hi H
    · have := ready_mono hj hji
      rw [H.1] at this
      cases this
  | succ fuel ih =>
    intro listed a hfree hr hy H
    refine ⟨fun h => (by rw [h] at hr; cases hr), fun j hj => ?_⟩
    by_cases hji : j = i
    · subst hji; exact hy.op hi H
    · have h1 := H.2 j (ready_mono hj hji)
      obtain ⟨hjun, oj, hoj, hall⟩ := mem_ready.1 hj
      have hnot : ∀ e ∈ oj.after, Region.binds md e = true → e.on ≠ i := fun e he hb heq => by
        have h1 := hall e he hb
        have h0 := (mem_ready.1 hr).1
        rw [heq] at h1
        rcases Nat.lt_or_ge i listed.size with h' | h'
        · simp [h'] at h0 h1; rw [h0] at h1; cases h1
        · simp [Array.getElem?_eq_none h'] at h1
      have h2 := gOp_put hoj (hfree j oj hoj hji hjun hnot) (fun cs b => hsel i oi cs b hi) (fun cs b => hsel j oj cs b hoj) hy h1
      have hfree' : ∀ k ok, ops[k]? = some ok → k ≠ i → (listed.setIfInBounds j true).getD k true = false →
          (∀ e ∈ ok.after, Region.binds md e = true → e.on ≠ i) → oi.apart ops ok = true := fun k ok hk hki hun hno => by
        refine hfree k ok hk hki ?_ hno
        by_cases hjk : j = k
        · subst hjk; exact hjun
        · rw [getD_set_ne true hjk] at hun; exact hun
      refine gOp_mono (fun a' h3 => ih (listed.setIfInBounds j true) a' hfree' (ready_mono hr (Ne.symm hji)) h3.1 ?_) h2
      rw [Array.setIfInBounds_comm _ _ hji]
      exact h3.2

theorem gAny_lex {Q : Act → Prop} (hs : Region.noSelect ops = true) : ∀ (l : List Oper) (k : Nat) (listed : Array Bool) (a : Act), (∀ j, l[j]? = ops[k + j]?) →
    Region.lexFrom md ops l.length k listed = true → gWalk G ops Q k l a → gAny G md ops Q l.length listed a
  | [], _, _, _, _, hB, h => ⟨by simpa [Region.lexFrom] using hB, h⟩
  | o :: l, k, listed, a, hl, hB, h => by
    have h0 : ops[k]? = some o := by simpa using (hl 0).symm
    simp only [List.length_cons, Region.lexFrom, Bool.and_eq_true] at hB
    obtain ⟨⟨hr, hf⟩, hB'⟩ := hB
    have hst : gOp G ops k (gWalk G ops Q (k + 1) l) a := by unfold gOp; simp only [h0]; exact h
    obtain ⟨v, hy, hK⟩ := gYields_of_op h0 hst
    exact gAny_first h0 (Region.noSelect_spec hs) l.length listed a (Region.free_spec h0 hf) (by simpa using hr) hy
      (gAny_lex hs l (k + 1) _ _ (fun j => by have := hl (j + 1); simpa [Nat.add_assoc, Nat.add_comm 1 j] using this) hB' hK)
end

/-- What the operation that changes the world must come to. -/
def writeUpon (P : Program) (C1 : World → Prop) (v : Value) : Result Next → Prop
  | .ok (.value u) w' => u = v ∧ C1 w'
  | .ok .skip w' => v = undef ∧ C1 w'
  | .ok (.enter f args) w' => Calls P f args w' (fun e w'' => e = .returned v ∧ C1 w'')
  | _ => False

/-- An operation that neither reads nor changes the world. -/
def pureUpon (w : World) (v : Value) : Result Next → Prop
  | .ok (.value u) w' => w' = w ∧ u = v
  | .ok .skip w' => w' = w ∧ v = undef
  | _ => False

/-- The operations ahead of number c read; c leads from the class C0 to the class C1; those behind it look at no world. -/
def oneG (P : Program) (c : Nat) (C0 C1 : World → Prop) (i : Nat) (s : Sem Next) (v : Value) : Prop :=
  if i < c then ∀ w, C0 w → Oper.quietUpon P C0 w v (s.run P w) else if i = c then ∀ w, C0 w → writeUpon P C1 v (s.run P w) else ∀ w, pureUpon w v (s.run P w)

theorem quiet_upon {P : Program} {o : Oper} {a : Act} {v : Value} {C : World → Prop} {w : World} {K' : Act → World → Prop} {Q' : Exit → Act → World → Prop} (hw : C w) (h : ∀ w', C w' → K' (a.put o.dst v) w')
    {r : Result Next} (h3 : Oper.quietUpon P C w v r) : o.upon P a K' Q' r := by
  cases r with
  | halt x w' => exact h3.elim
  | ok x w' =>
    cases x with
    | value u => obtain ⟨rfl, rfl⟩ := h3; exact h _ hw
    | skip => obtain ⟨rfl, rfl⟩ := h3; exact h _ hw
    | enter f args =>
      obtain ⟨rfl, hc⟩ := h3
      exact hc.mono fun e w'' ⟨he, hw''⟩ => by subst he; exact h _ hw''
    | _ => exact h3.elim
theorem write_upon {P : Program} {o : Oper} {a : Act} {v : Value} {C : World → Prop} {K' : Act → World → Prop} {Q' : Exit → Act → World → Prop} (h : ∀ w', C w' → K' (a.put o.dst v) w')
    {r : Result Next} (h3 : writeUpon P C v r) : o.upon P a K' Q' r := by
  cases r with
  | halt x w' => exact h3.elim
  | ok x w' =>
    cases x with
    | value u => obtain ⟨rfl, hc⟩ := h3; exact h _ hc
    | skip => obtain ⟨rfl, hc⟩ := h3; exact h _ hc
    | enter f args => exact Calls.mono h3 fun e w'' ⟨he, hw''⟩ => by subst he; exact h _ hw''
    | _ => exact h3.elim

theorem pure_upon {P : Program} {o : Oper} {a : Act} {v : Value} {w : World} {K' : Act → World → Prop} {Q' : Exit → Act → World → Prop} (h : K' (a.put o.dst v) w)
    {r : Result Next} (h3 : pureUpon w v r) : o.upon P a K' Q' r := by
  cases r with
  | halt x w' => exact h3.elim
  | ok x w' =>
    cases x with
    | value u => obtain ⟨rfl, rfl⟩ := h3; exact h
    | skip => obtain ⟨rfl, rfl⟩ := h3; exact h
    | _ => exact h3.elim

section
variable {P : Program} {ops : Array Oper} {md : Region.Mode} {C0 C1 : World → Prop} {c : Nat}

theorem rep_false (m j : Nat) : (Array.replicate m false).getD j false = false := by
  by_cases h : j < m <;> simp [h]

/-- Whatever the marked operations wait for is marked too. -/
def marks (md : Region.Mode) (ops : Array Oper) : Nat → Array Bool → Array Bool
  | 0, S => S
  | j + 1, S => marks md ops j (if S.getD j false then (match ops[j]? with | some o => o.after.toList.foldl (fun S e => if Region.binds md e then S.setIfInBounds e.on true else S) S | none => S) else S)
def allBefore (md : Region.Mode) (ops : Array Oper) (c : Nat) : Bool := (List.range c).all fun i => (marks md ops (c + 1) ((Array.replicate ops.size false).setIfInBounds c true)).getD i false

def Shut (md : Region.Mode) (ops : Array Oper) (L : Array Bool) : Prop := ∀ j oj, ops[j]? = some oj → L.getD j false = true → ∀ e ∈ oj.after, Region.binds md e = true → L.getD e.on false = true

theorem marks_sub {L : Array Bool} (hL : Shut md ops L) : ∀ (j : Nat) (S : Array Bool), (∀ i, S.getD i false = true → L.getD i false = true) → ∀ i, (marks md ops j S).getD i false = true → L.getD i false = true
  | 0, S, h => h
  | j + 1, S, h => by
    unfold marks
    refine marks_sub hL j _ ?_
    by_cases hj : S.getD j false = true
    · rw [if_pos hj]
      cases ho : ops[j]? with
      | none => exact h
      | some o =>
        have hcl := hL j o ho (h j hj)
        have key : ∀ (es : List Edge) (T : Array Bool), (∀ e ∈ es, e ∈ o.after.toList) → (∀ i, T.getD i false = true → L.getD i false = true) →
            ∀ i, (es.foldl (fun S e => if Region.binds md e then S.setIfInBounds e.on true else S) T).getD i false = true → L.getD i false = true := by
          intro es
          induction es with
          | nil => intro T _ hT; exact hT
          | cons e es ih =>
            intro T hes hT
            rw [List.foldl_cons]
            refine ih _ (fun e' he' => hes e' (List.mem_cons_of_mem _ he')) ?_
            by_cases hb : Region.binds md e = true
            · rw [if_pos hb]
              intro i hi
              by_cases hei : e.on = i
              · rw [← hei]; exact hcl e (by simpa using hes e (by simp)) hb
              · rw [getD_set_ne false hei] at hi; exact hT i hi
            · rw [if_neg hb]; exact hT
        exact key _ S (fun e he => he) h
    · rw [if_neg hj]; exact h

theorem before_listed {L : Array Bool} (hL : Shut md ops L) (hB : allBefore md ops c = true) (hc : L.getD c false = true) : ∀ i, i < c → L.getD i false = true := by
  intro i hi
  have h1 := List.all_eq_true.1 hB i (by simpa using hi)
  refine marks_sub hL (c + 1) _ ?_ i h1
  intro j hj
  by_cases e : c = j
  · rw [← e]; exact hc
  · rw [getD_set_ne false e, rep_false] at hj
    cases hj

theorem Shut.set {L : Array Bool} {i : Nat} (h : Shut md ops L) (hi : i ∈ Region.ready md ops L) : Shut md ops (L.setIfInBounds i true) := by
  obtain ⟨_, oi, hoi, hall⟩ := mem_ready.1 hi
  intro j oj hj hl e he hb
  by_cases hij : i = j
  · subst hij
    have : oj = oi := Option.some.inj (hj.symm.trans hoi)
    subst this
    exact getD_set_true (hall e he hb)
  · rw [getD_set_ne false hij] at hl
    exact getD_set_true (h j oj hj hl e he hb)

def phase (c : Nat) (C0 C1 : World → Prop) (listed : Array Bool) (w : World) : Prop := if listed.getD c false = true then C1 w else C0 w

def edgesBack (md : Region.Mode) (ops : Array Oper) : Bool := (List.range ops.size).all fun j => match ops[j]? with
  | some o => o.after.all fun e => !Region.binds md e || decide (e.on < j)
  | none => true

theorem ready_nil {listed : Array Bool} (hs : listed.size = ops.size) (hb : edgesBack md ops = true) (h : Region.ready md ops listed = []) : ∀ j, j < ops.size → listed.getD j false = true := by
  intro j
  induction j using Nat.strongRecOn with
  | _ j ih =>
    intro hj
    apply Classical.byContradiction
    intro hno
    have hun : listed.getD j true = false := by
      simp [hs, hj] at hno ⊢; exact hno
    obtain ⟨o, ho⟩ : ∃ o, ops[j]? = some o := ⟨_, Array.getElem?_eq_getElem hj⟩
    have hin : j ∈ Region.ready md ops listed := by
      refine mem_ready.2 ⟨hun, o, ho, fun e he hbe => ?_⟩
      have h1 := List.all_eq_true.1 hb j (by simpa using hj)
      simp only [ho] at h1
      have h2 := Array.all_eq_true'.1 h1 e he
      simp [hbe] at h2
      exact ih e.on h2 (by omega)
    rw [h] at hin
    cases hin

/-- What stands behind c waits for c, or looks at no world: either way it may come up at any time. -/
theorem any_of_gAny (hc : c < ops.size) (hb : edgesBack md ops = true) (hbf : allBefore md ops c = true) (hu : ∀ o, ops[c]? = some o → o.guard = none) {Q : Act → Prop} {Q' : Exit → Act → World → Prop} (hQ : ∀ a w, C1 w → Q a → Q' .normal a w) : ∀ (fuel : Nat) (listed : Array Bool) (a : Act) (w : World), listed.size = ops.size →
    Shut md ops listed → phase c C0 C1 listed w → gAny (oneG P c C0 C1) md ops Q fuel listed a → wpAny P md ops Q' fuel listed a w
  | 0, listed, a, w, hs, _, hp, h => ⟨h.1, hQ _ _ (by unfold phase at hp; rw [if_pos (ready_nil hs hb h.1 c hc)] at hp; exact hp) h.2⟩
  | fuel + 1, listed, a, w, hs, hsh, hp, h => by
    refine ⟨fun h0 => hQ _ _ (by unfold phase at hp; rw [if_pos (ready_nil hs hb h0 c hc)] at hp; exact hp) (h.1 h0), fun i hi => ?_⟩
    have hg := h.2 i hi
    obtain ⟨hun, oi, hoi, _⟩ := mem_ready.1 hi
    have hil : i < ops.size := (Array.getElem?_eq_some_iff.1 hoi).1
    have hs' : (listed.setIfInBounds i true).size = ops.size := by simp [hs]
    have hl0 : listed.getD i false = false := by
      simp [hs, hil] at hun ⊢; exact hun
    have next : ∀ a' w', phase c C0 C1 (listed.setIfInBounds i true) w' → gAny (oneG P c C0 C1) md ops Q fuel (listed.setIfInBounds i true) a' → wpAny P md ops Q' fuel (listed.setIfInBounds i true) a' w' :=
      fun a' w' hp' hg' => any_of_gAny hc hb hbf hu hQ fuel _ a' w' hs' (hsh.set hi) hp' hg'
    unfold gOp at hg
    unfold wpOp
    simp only [hoi] at hg ⊢
    by_cases hic : i = c
    · subst hic
      have hl1 : (listed.setIfInBounds i true).getD i false = true := by simp [hs, hil]
      unfold phase at hp
      rw [if_neg (by simp [hl0])] at hp
      have hw : Region.wanted oi (yielded ops a.tmps) = true := by simp [Region.wanted, hu oi hoi]
      rw [if_pos hw] at hg ⊢
      obtain ⟨v, hv, hk⟩ := hg
      unfold oneG at hv
      rw [if_neg (Nat.lt_irrefl _), if_pos rfl] at hv
      exact .inl (write_upon (fun w' hc' => next _ w' (by unfold phase; rw [if_pos hl1]; exact hc') hk) (hv w hp))
    · have hlc : (listed.setIfInBounds i true).getD c false = listed.getD c false := getD_set_ne false hic
      by_cases hw : Region.wanted oi (yielded ops a.tmps) = true
      · rw [if_pos hw] at hg ⊢
        obtain ⟨v, hv, hk⟩ := hg
        unfold oneG at hv
        left
        by_cases hlt : i < c
        · have hcl : ¬ listed.getD c false = true := fun hcl => by rw [before_listed hsh hbf hcl i hlt] at hl0; cases hl0
          rw [if_pos hlt] at hv
          unfold phase at hp
          rw [if_neg hcl] at hp
          exact quiet_upon hp (fun w' hc' => next _ w' (by unfold phase; rw [hlc, if_neg hcl]; exact hc') hk) (hv w hp)
        · rw [if_neg hlt, if_neg hic] at hv
          exact pure_upon (next _ w (by unfold phase at hp ⊢; rw [hlc]; exact hp) hk) (hv w)
      · rw [if_neg hw] at hg ⊢
        exact next _ w (by unfold phase at hp ⊢; rw [hlc]; exact hp) hg

/-- The law. C1 is what the one operation (number c) that changes the world leads to; before it the world is w after some draws. -/
theorem region_one (c : Nat) {id : Nat} {Q : Exit → Act → World → Prop} {a : Act} {w : World} {l : List Oper} (C1 : World → Prop) (hm : P.follows .mixedOrders = true) (hB : Region.lexB .any l.toArray = true)
    (hk : ((edgesBack .any l.toArray && allBefore .any l.toArray c) && match l[c]? with | some o => o.guard.isNone | none => false) = true)
    (h : gWalk (oneG P c (fun w' => ∃ n, w' = w.drewN n) C1) l.toArray (fun a' => ∀ w', C1 w' → Q .normal a' w') 0 l a) : (Code.region id l.toArray true).wp P Q a w := by
  simp only [Region.lexB, Bool.and_eq_true] at hB
  rw [Bool.and_eq_true, Bool.and_eq_true] at hk
  obtain ⟨⟨hk1, hk3⟩, hk2⟩ := hk
  have hcl : c < l.length := by
    cases ho : l[c]? with
    | none => rw [ho] at hk2; cases hk2
    | some o => exact (List.getElem?_eq_some_iff.1 ho).1
  have hg : ∀ o, l.toArray[c]? = some o → o.guard = none := by
    intro o ho
    simp only [List.getElem?_toArray] at ho
    rw [ho] at hk2
    simpa using hk2
  refine wp_region_any hm (any_of_gAny (Q := fun a' => ∀ w', C1 w' → Q .normal a' w') (C0 := fun w' => ∃ n, w' = w.drewN n) (C1 := C1) (c := c) (by simpa using hcl) hk1 hk3 hg (fun _ w' hw' h => h w' hw') _ _ _ _ (by simp) ?_ ?_ ?_)
  · intro j oj _ hl; rw [rep_false] at hl; cases hl
  · unfold phase
    rw [if_neg (by simp [hcl])]
    exact ⟨1, rfl⟩
  · have := gAny_lex (G := oneG P c (fun w' => ∃ n, w' = w.drewN n) C1) (md := .any) hB.1 l 0 (Array.replicate l.toArray.size false) a (by simp) (by simpa using hB.2) h
    simpa using this

/-- One step of the walk: an operation ahead of number c. -/
theorem gWalk_pre {C0 C1 : World → Prop} {Q : Act → Prop} {k : Nat} {o : Oper} {rest : List Oper} {a : Act} (hk : k < c)
    (h : ∀ K : Act → Prop, (∀ a, gWalk (oneG P c C0 C1) ops Q (k + 1) rest a → K a) → if Region.wanted o (yielded ops a.tmps) then o.quiet P a C0 K else K (a.put o.dst undef)) : gWalk (oneG P c C0 C1) ops Q k (o :: rest) a := by
  have h := h _ (fun _ h => h)
  unfold gWalk
  by_cases hw : Region.wanted o (yielded ops a.tmps) = true
  · rw [if_pos hw] at *
    obtain ⟨v, h1, h2⟩ := h
    refine ⟨v, ?_, h2⟩
    unfold oneG; rw [if_pos hk]; exact h1
  · rw [if_neg hw] at *; exact h
/-- One step of the walk: the operation that changes the world. -/
theorem gWalk_write {C0 C1 : World → Prop} {Q : Act → Prop} {o : Oper} {rest : List Oper} {a : Act} (hg : o.guard = none) (v : Value)
    (h0 : ∀ w, C0 w → writeUpon P C1 v ((execOp a.eval o).run P w)) (h : gWalk (oneG P c C0 C1) ops Q (c + 1) rest (a.put o.dst v)) : gWalk (oneG P c C0 C1) ops Q c (o :: rest) a := by
  unfold gWalk
  rw [if_pos (by simp [Region.wanted, hg])]
  refine ⟨v, ?_, h⟩
  unfold oneG
  rw [if_neg (Nat.lt_irrefl _), if_pos rfl]
  exact h0
def Oper.pure_ (P : Program) (o : Oper) (a : Act) (next : Act → Prop) : Prop := ∃ v, (∀ w, pureUpon w v ((execOp a.eval o).run P w)) ∧ next (a.put o.dst v)
/-- One step of the walk: an operation behind number c. -/
theorem gWalk_post {C0 C1 : World → Prop} {Q : Act → Prop} {k : Nat} {o : Oper} {rest : List Oper} {a : Act} (hk : c < k)
    (h : ∀ K : Act → Prop, (∀ a, gWalk (oneG P c C0 C1) ops Q (k + 1) rest a → K a) → if Region.wanted o (yielded ops a.tmps) then Oper.pure_ P o a K else K (a.put o.dst undef)) : gWalk (oneG P c C0 C1) ops Q k (o :: rest) a := by
  have h := h _ (fun _ h => h)
  unfold gWalk
  by_cases hw : Region.wanted o (yielded ops a.tmps) = true
  · rw [if_pos hw] at *
    obtain ⟨v, h1, h2⟩ := h
    refine ⟨v, ?_, h2⟩
    unfold oneG; rw [if_neg (by omega), if_neg (by omega)]; exact h1
  · rw [if_neg hw] at *; exact h
theorem gWalk_nil {C0 C1 : World → Prop} {Q : Act → Prop} {k : Nat} {a : Act} (h : Q a) : gWalk (oneG P c C0 C1) ops Q k [] a := h

attribute [go_sem] Oper.pure_ pureUpon writeUpon

end
end Go.Proofs.YthkkelkgfkehlaaGreat
