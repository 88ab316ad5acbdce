/- The document's table: Put. -/
import Derived.Test.YtbegdgnhpklceaaGreatB2
import Derived.Test.YtbegdgnhpklceaaGreatRows
import Derived.WalkKit
import Derived.ProofKit
import Derived.OpenShut
import Derived.ShutString
import Derived.Test.YtbegdgnhpklceaaGreatB4
import Derived.Test.YtbegdgnhpklceaaGreatB1
import Derived.Deep.RegionHeld3
import Derived.Deep.RegionLaw
import Derived.StillTailTactics
import Derived.Deep.Upon
set_option linter.unusedSimpArgs false
set_option linter.unusedVariables false
/- A plain model of an intern table: the ids with their indexes, in the order in which they came; the free indexes, the last one first; how many indexes were given out. -/
namespace Go.Proofs.YtbegdgnhpklceaaGreat

structure Md where
  slots : Nat
  L : List (Nat × Nat)
  free : List Nat
  given : Nat

namespace Md
def new (slots : Nat) : Md := { slots := slots, L := [], free := [], given := 0 }
def find (M : Md) (id : Nat) : Option Nat := (M.L.find? (fun x => x.1 == id)).map (·.2)
def idOf (M : Md) (i : Nat) : Option Nat := (M.L.find? (fun x => x.2 == i)).map (·.1)
def next (M : Md) : Option Nat := match M.free with
  | k :: _ => some k
  | [] => if M.given < M.slots then some M.given else none
def add (M : Md) (id i : Nat) : Md := { M with L := M.L ++ [(id, i)], free := M.free.tail, given := match M.free with | [] => M.given + 1 | _ => M.given }
def rem (M : Md) (id i : Nat) : Md := { M with L := M.L.filter (fun x => x.1 != id), free := i :: M.free }

structure PutR where
  idx : Nat
  added : Bool
  err : Nat
  M : Md
def put (M : Md) (id : Nat) : PutR := match M.find id with
  | some i => ⟨i, false, 0, M⟩
  | none => match M.next with
    | none => ⟨0, false, 4, M⟩
    | some i => ⟨i, true, 0, M.add id i⟩
structure DelR where
  err : Nat
  M : Md
def del (M : Md) (id : Nat) : DelR := match M.find id with
  | none => ⟨5, M⟩
  | some i => ⟨0, M.rem id i⟩

def ar (M : Md) : Ar := { slots := M.slots, begun := M.given, free := M.free }

structure Ok (M : Md) : Prop where
  ar : M.ar.ok
  ids : (M.L.map (·.1)).Nodup
  idx : (M.L.map (·.2)).Nodup
  used : ∀ x ∈ M.L, M.ar.isUsed x.2
  all : ∀ i, M.ar.isUsed i → ∃ id, (id, i) ∈ M.L
  cnt : M.L.length + M.free.length = M.given
  u64 : ∀ x ∈ M.L, x.1 < 18446744073709551616

theorem mem_find {M : Md} (h : (M.L.map (·.1)).Nodup) {id i : Nat} (hm : (id, i) ∈ M.L) : M.find id = some i := by
  unfold find
  generalize M.L = l at *
  induction l with
  | nil => cases hm
  | cons a r ih =>
    simp only [List.map_cons, List.nodup_cons] at h
    by_cases e : a.1 = id
    · rcases List.mem_cons.1 hm with rfl | hm
      · simp
      · exact absurd (List.mem_map.2 ⟨_, hm, e.symm⟩) h.1
    · rcases List.mem_cons.1 hm with rfl | hm
      · exact absurd rfl e
      · rw [List.find?_cons_of_neg (by simpa using e)]; exact ih h.2 hm
theorem find_mem {M : Md} {id i : Nat} (hf : M.find id = some i) : (id, i) ∈ M.L := by
  unfold find at hf
  simp only [Option.map_eq_some_iff] at hf
  obtain ⟨x, hx, rfl⟩ := hf
  have h1 := List.find?_some hx
  have h2 := List.mem_of_find?_eq_some hx
  simp at h1
  subst h1
  exact h2
theorem find_iff {M : Md} (h : M.Ok) {id i : Nat} : M.find id = some i ↔ (id, i) ∈ M.L := ⟨find_mem, mem_find h.ids⟩
theorem find_none {M : Md} {id : Nat} : M.find id = none ↔ ∀ i, (id, i) ∉ M.L := by
  unfold find
  simp only [Option.map_eq_none_iff, List.find?_eq_none, beq_iff_eq]
  constructor
  · intro h i hm; exact h _ hm rfl
  · rintro h ⟨a, b⟩ hm e; subst e; exact h b hm
theorem mem_idOf {M : Md} (h : (M.L.map (·.2)).Nodup) {id i : Nat} (hm : (id, i) ∈ M.L) : M.idOf i = some id := by
  unfold idOf
  generalize M.L = l at *
  induction l with
  | nil => cases hm
  | cons a r ih =>
    simp only [List.map_cons, List.nodup_cons] at h
    by_cases e : a.2 = i
    · rcases List.mem_cons.1 hm with rfl | hm
      · simp
      · exact absurd (List.mem_map.2 ⟨_, hm, e.symm⟩) h.1
    · rcases List.mem_cons.1 hm with rfl | hm
      · exact absurd rfl e
      · rw [List.find?_cons_of_neg (by simpa using e)]; exact ih h.2 hm
theorem idOf_mem {M : Md} {id i : Nat} (hf : M.idOf i = some id) : (id, i) ∈ M.L := by
  unfold idOf at hf
  simp only [Option.map_eq_some_iff] at hf
  obtain ⟨x, hx, rfl⟩ := hf
  have h1 := List.find?_some hx
  have h2 := List.mem_of_find?_eq_some hx
  simp at h1
  subst h1
  exact h2
theorem idOf_none {M : Md} {i : Nat} : M.idOf i = none ↔ ∀ id, (id, i) ∉ M.L := by
  unfold idOf
  simp only [Option.map_eq_none_iff, List.find?_eq_none, beq_iff_eq]
  constructor
  · intro h i hm; exact h _ hm rfl
  · rintro h ⟨a, b⟩ hm e; subst e; exact h a hm

theorem ok_new {slots : Nat} (h : slots ≤ 65536) : (new slots).Ok :=
  ⟨⟨h, by simp [new, ar], by simp [new, ar], by simp [new, ar]⟩, by simp [new], by simp [new], by simp [new], fun i hi => absurd hi.1 (Nat.not_lt_zero _), rfl, by simp [new]⟩

theorem ar_next (M : Md) : M.ar.next = M.next := by
  unfold ar next Ar.next; cases M.free <;> rfl
theorem ar_add {M : Md} {id i : Nat} (h : M.next = some i) : (M.add id i).ar = M.ar.alloc := by
  obtain ⟨s, L, f, g⟩ := M
  cases f <;> rfl
theorem ar_rem (M : Md) (id i : Nat) : (M.rem id i).ar = M.ar.put i := rfl

theorem alloc_ok {A : Ar} {i : Nat} (h : A.ok) (hn : A.next = some i) : A.alloc.ok := by
  obtain ⟨s, b, f⟩ := A
  cases f with
  | cons k r =>
    refine ⟨h.hs, h.hb, (List.nodup_cons.1 h.nd).2, fun x hx => h.lt x (List.mem_cons_of_mem _ hx)⟩
  | nil =>
    simp only [Ar.next] at hn
    by_cases hb : b < s
    · exact ⟨h.hs, by simp [Ar.alloc]; omega, by simp [Ar.alloc], by simp [Ar.alloc]⟩
    · rw [if_neg hb] at hn; cases hn
theorem isUsed_alloc' {A : Ar} {i : Nat} (hok : A.ok) (hn : A.next = some i) : (¬ A.isUsed i) ∧ ∀ j, A.alloc.isUsed j ↔ (A.isUsed j ∨ j = i) := by
  obtain ⟨slots, begun, free⟩ := A
  cases free with
  | cons k r =>
    obtain rfl : k = i := by simpa [Ar.next] using hn
    have hnd := hok.nd
    have hlt := hok.lt k (by simp)
    simp only [List.nodup_cons] at hnd
    dsimp only at hlt
    refine ⟨by simp [Ar.isUsed], fun j => ?_⟩
    simp only [Ar.isUsed, Ar.alloc, List.mem_cons, not_or]
    constructor
    · rintro ⟨a, b⟩
      by_cases e : j = k
      · exact .inr e
      · exact .inl ⟨a, e, b⟩
    · rintro (⟨a, _, b⟩ | rfl)
      · exact ⟨a, b⟩
      · exact ⟨hlt, hnd.1⟩
  | nil =>
    simp only [Ar.next] at hn
    by_cases hb : begun < slots
    · rw [if_pos hb] at hn
      obtain rfl : begun = i := by simpa using hn
      refine ⟨by simp [Ar.isUsed], fun j => ?_⟩
      simp only [Ar.isUsed, Ar.alloc, List.not_mem_nil, not_false_eq_true, and_true]
      omega
    · rw [if_neg hb] at hn; cases hn

theorem ok_add {M : Md} (h : M.Ok) {id i : Nat} (hid : id < 18446744073709551616) (hf : M.find id = none) (hn : M.next = some i) : (M.add id i).Ok := by
  have hn' : M.ar.next = some i := by rw [ar_next]; exact hn
  obtain ⟨hnu, hiff⟩ := isUsed_alloc' h.ar hn'
  have hno := find_none.1 hf
  refine ⟨by rw [ar_add hn]; exact alloc_ok h.ar hn', ?_, ?_, ?_, ?_, ?_, ?_⟩
  · simp only [add, List.map_append, List.map_cons, List.map_nil, List.nodup_append]
    refine ⟨h.ids, by simp, ?_⟩
    intro a ha b hb e
    simp only [List.mem_singleton] at hb
    obtain ⟨x, hx, rfl⟩ := List.mem_map.1 ha
    exact hno x.2 (by rw [← hb, ← e]; exact hx)
  · simp only [add, List.map_append, List.map_cons, List.map_nil, List.nodup_append]
    refine ⟨h.idx, by simp, ?_⟩
    intro a ha b hb e
    simp only [List.mem_singleton] at hb
    obtain ⟨x, hx, rfl⟩ := List.mem_map.1 ha
    have := h.used x hx
    rw [e, hb] at this
    exact hnu this
  · intro x hx
    rw [ar_add hn, hiff]
    simp only [add, List.mem_append, List.mem_singleton] at hx
    rcases hx with hx | rfl
    · exact .inl (h.used x hx)
    · exact .inr rfl
  · intro j hj
    rw [ar_add hn, hiff] at hj
    rcases hj with hj | rfl
    · obtain ⟨id', hm⟩ := h.all j hj
      exact ⟨id', by simp [add, hm]⟩
    · exact ⟨id, by simp [add]⟩
  · have := h.cnt
    obtain ⟨s, L, f, g⟩ := M
    cases f with
    | nil => simp [add] at *; omega
    | cons k r => simp [add] at *; omega
  · intro x hx
    simp only [add, List.mem_append, List.mem_singleton] at hx
    rcases hx with hx | rfl
    · exact h.u64 x hx
    · exact hid

theorem filter_ne {l : List (Nat × Nat)} {id i : Nat} (hnd : (l.map (·.1)).Nodup) (hm : (id, i) ∈ l) : (l.filter (fun x => x.1 != id)).length + 1 = l.length := by
  induction l with
  | nil => cases hm
  | cons a r ih =>
    simp only [List.map_cons, List.nodup_cons] at hnd
    by_cases e : a.1 = id
    · have hr : r.filter (fun x => x.1 != id) = r := List.filter_eq_self.2 (fun x hx => by
        simp only [bne_iff_ne]; intro e2; exact hnd.1 (List.mem_map.2 ⟨x, hx, e2.trans e.symm⟩))
      rw [List.filter_cons_of_neg (by simp [e]), hr]; simp
    · rcases List.mem_cons.1 hm with rfl | hm
      · exact absurd rfl e
      · rw [List.filter_cons_of_pos (by simpa using e), List.length_cons, List.length_cons, ih hnd.2 hm]

theorem isUsed_put' {A : Ar} {k : Nat} (_hu : A.isUsed k) (j : Nat) : (A.put k).isUsed j ↔ (A.isUsed j ∧ j ≠ k) := by
  simp only [Ar.isUsed, Ar.put, List.mem_cons, not_or]
  constructor
  · rintro ⟨a, b, c⟩; exact ⟨⟨a, c⟩, b⟩
  · rintro ⟨⟨a, c⟩, b⟩; exact ⟨a, b, c⟩

theorem ok_rem {M : Md} (h : M.Ok) {id i : Nat} (hm : (id, i) ∈ M.L) : (M.rem id i).Ok := by
  have hu := h.used _ hm
  have hiff := isUsed_put' hu
  have hne : ∀ x ∈ M.L, x.1 ≠ id → x.2 ≠ i := by
    intro x hx hn e
    have h1 := mem_idOf h.idx (show (x.1, x.2) ∈ M.L from hx)
    have h2 := mem_idOf h.idx hm
    rw [e, h2] at h1
    exact hn (by simpa using h1.symm)
  refine ⟨?_, ?_, ?_, ?_, ?_, ?_, ?_⟩
  · rw [ar_rem]
    refine ⟨h.ar.hs, h.ar.hb, ?_, ?_⟩
    · simp only [Ar.put, List.nodup_cons]; exact ⟨hu.2, h.ar.nd⟩
    · intro x hx; simp only [Ar.put, List.mem_cons] at hx
      rcases hx with rfl | hx
      · exact hu.1
      · exact h.ar.lt x hx
  · exact (List.Sublist.map _ List.filter_sublist).nodup h.ids
  · exact (List.Sublist.map _ List.filter_sublist).nodup h.idx
  · intro x hx
    simp only [rem, List.mem_filter, bne_iff_ne] at hx
    rw [ar_rem, hiff]
    exact ⟨h.used x hx.1, hne x hx.1 hx.2⟩
  · intro j hj
    rw [ar_rem, hiff] at hj
    obtain ⟨id', hm'⟩ := h.all j hj.1
    refine ⟨id', ?_⟩
    simp only [rem, List.mem_filter, bne_iff_ne]
    refine ⟨hm', fun e => ?_⟩
    subst e
    have h1 := mem_find h.ids hm
    rw [mem_find h.ids hm'] at h1
    exact hj.2 (by simpa using h1)
  · have := h.cnt
    have h2 := filter_ne h.ids hm
    simp only [rem, List.length_cons]
    omega
  · intro x hx
    simp only [rem, List.mem_filter] at hx
    exact h.u64 x hx.1

theorem ok_put {M : Md} (h : M.Ok) {id : Nat} (hid : id < 18446744073709551616) : (M.put id).M.Ok := by
  unfold put
  cases hf : M.find id with
  | some i => exact h
  | none =>
    cases hn : M.next with
    | none => exact h
    | some i => exact ok_add h hid hf hn
theorem ok_del {M : Md} (h : M.Ok) (id : Nat) : (M.del id).M.Ok := by
  unfold del
  cases hf : M.find id with
  | none => exact h
  | some i => exact ok_rem h (find_mem hf)
end Md
end Go.Proofs.YtbegdgnhpklceaaGreat

/- How the arguments of the laws read: slices of integers. -/
namespace Go.Proofs.YtbegdgnhpklceaaGreat
open Go.ChangeShapes Go.WideShapes Go.ChangeAt Go.RowKit

/-- What a walk is told of a slice of integers that came in: nil, or a row of cells that reads zs. -/
def IsRow (k : IntKind) (w : World) (a : Option Addr) (len cap : Nat) (zs : List Int) : Prop :=
  (a = none ∧ len = 0 ∧ cap = 0 ∧ zs = []) ∨
  ∃ x, a = some x ∧ len ≤ cap ∧ cap ≤ maxLen ∧ zs.length = cap ∧ (∀ i, i < zs.length → w.cell? (x.add i) = some (.int k (zs.getD i 0))) ∧ ∀ n ∈ zs, (Lit.int k n).wf = true

theorem open_row {H : Type} {enc : TypeId × Value → H} {W : World} {t e : TypeId} {k : IntKind} {a : Option Addr} {len cap : Nat} {d : DataW H} {p : List MemPlace}
    (ht : Tryz.prog.underlying t = some (.slice e)) (he : Tryz.prog.underlying e = some (.int k)) (hc : Tryz.prog.cellsOf e = 1)
    (h : DataW.Trod enc Tryz.prog W 0 (fun _ => true) true t (.slice a len cap) d p) : ∃ zs, IsRow k W a len cap zs := by
  obtain ⟨fuel, hf⟩ := h
  rcases open_ints ht he hc hf with ⟨hcs, _⟩ | ⟨x, l, c, zs, hcs, _, hl, hm, hz, _, hcell, hwz⟩
  · simp [Value.cells] at hcs
    obtain ⟨rfl, rfl, rfl⟩ := hcs
    exact ⟨[], .inl ⟨rfl, rfl, rfl, rfl⟩⟩
  · simp [Value.cells] at hcs
    obtain ⟨rfl, rfl, rfl⟩ := hcs
    exact ⟨zs, .inr ⟨_, rfl, hl, hm, by simpa using hz, hcell, hwz⟩⟩

end Go.Proofs.YtbegdgnhpklceaaGreat

/- The document's table in memory; New, valid, find, Get, ID, Len. -/
namespace Go.Proofs.YtbegdgnhpklceaaGreat
open Go.RowKit
set_option maxRecDepth 10000
set_option maxHeartbeats 400000

def itemCells (L : List (Nat × Nat)) : List Value := L.flatMap fun p => [.int .u64 p.1, .int .i64 p.2]
theorem itemCells_len (L : List (Nat × Nat)) : (itemCells L).length = L.length * 2 := by
  induction L with
  | nil => rfl
  | cons p L ih => simp only [itemCells, List.flatMap_cons, List.length_append, List.length_cons, List.length_nil] at *; omega
theorem itemCells_snoc (L : List (Nat × Nat)) (p : Nat × Nat) : itemCells (L ++ [p]) = itemCells L ++ [.int .u64 p.1, .int .i64 p.2] := by simp [itemCells]
theorem itemCells_one (L : List (Nat × Nat)) : ∀ u ∈ itemCells L, u.oneCell' = true := by
  intro u hu
  simp only [itemCells, List.mem_flatMap] at hu
  obtain ⟨p, _, hp⟩ := hu
  simp at hp
  rcases hp with rfl | rfl <;> rfl
theorem itemCells_at (K : List (Nat × Nat)) : ∀ (i : Nat) (hi : i < K.length), (itemCells K)[i * 2]? = some (.int .u64 (K[i].1 : Int)) ∧ (itemCells K)[i * 2 + 1]? = some (.int .i64 (K[i].2 : Int)) := by
  induction K with
  | nil => intro i hi; simp at hi
  | cons p K ih =>
    intro i hi
    cases i with
    | zero => simp [itemCells]
    | succ i =>
      have := ih i (by simpa using hi)
      simp only [itemCells, List.flatMap_cons] at this ⊢
      rw [show (i + 1) * 2 = i * 2 + 2 by omega, show i * 2 + 2 + 1 = (i * 2 + 1) + 2 by omega]
      simpa using this
theorem item_at {w : World} {v : Value} {K : List (Nat × Nat)} (h : w.ownsRow 0 126 2 v K.length (itemCells K)) {i : Nat} (hi : i < K.length) : ∃ b cap, v = .slice (some ⟨b, 0, none⟩) K.length cap ∧ b < w.heap.size ∧
    w.cell? ⟨b, i * 2, none⟩ = some (.int .u64 (K[i].1 : Int)) ∧ w.cell? ⟨b, i * 2 + 1, none⟩ = some (.int .i64 (K[i].2 : Int)) := by
  obtain ⟨h1, h2⟩ := h
  rcases h2 with ⟨rfl, h0⟩ | ⟨g, cap, cur, rfl, _, hh, hn, hm, hsz, hxs⟩
  · omega
  · refine ⟨g, cap, rfl, (Array.getElem?_eq_some_iff.1 hh).1, ?_, ?_⟩
    all_goals
      have key : ∀ j, j < 2 → cur[i * 2 + j]? = (itemCells K)[i * 2 + j]? := by
        intro j hj
        rw [← hxs, List.getElem?_take, if_pos (by omega)]
        simp
      simp only [World.cell?, hh]
      simp
    · have := key 0 (by omega); simp at this; rw [this]; exact (itemCells_at K i hi).1
    · rw [key 1 (by omega)]; exact (itemCells_at K i hi).2

structure RTab (w : World) (pr : Nat) (vL vF : Value) (M : Md) : Prop where
  hd : Blk w pr 115 [.bool true, .int .i64 M.slots, vL, vF, .int .i64 M.given]
  items : w.ownsRow 0 126 2 vL M.L.length (itemCells M.L)
  free : w.ownsRow 0 3 1 vF M.free.length (encN M.free.reverse)
  apL : vL.ownBlock ≠ some pr
  apF : vF.ownBlock ≠ some pr
  apLF : ∀ q, vL.ownBlock = some q → vF.ownBlock ≠ some q

/-- The blocks of the document's table. -/
def rTB (pr : Nat) (vL vF : Value) : List Nat := pr :: (vL.ownBlock.toList ++ vF.ownBlock.toList)

section
variable {w w' : World} {pr : Nat} {vL vF : Value} {M : Md}
theorem RTab.fr {S : List Nat} (h : RTab w pr vL vF M) (hf : Fr S w w') (hs : ∀ q ∈ rTB pr vL vF, q ∉ S) : RTab w' pr vL vF M :=
  ⟨hf.blk h.hd (hs pr (by simp [rTB])), ownsRow_same h.items (fun q hq => hf.keep q (h.items.lt q hq).2 (hs q (by simp [rTB, hq]))), ownsRow_same h.free (fun q hq => hf.keep q (h.free.lt q hq).2 (hs q (by simp [rTB, hq]))), h.apL, h.apF, h.apLF⟩
theorem RTab.fr0 (h : RTab w pr vL vF M) (hf : Fr [] w w') : RTab w' pr vL vF M := h.fr hf (by simp)
theorem RTab.drewN (h : RTab w pr vL vF M) (k : Nat) : RTab (w.drewN k) pr vL vF M := h.fr0 ((Fr.refl [] w).drewN k)
theorem RTab.lt (h : RTab w pr vL vF M) : ∀ q ∈ rTB pr vL vF, q < w.heap.size := by
  intro q hq
  simp only [rTB, List.mem_cons, List.mem_append, Option.mem_toList] at hq
  rcases hq with rfl | hq | hq
  · exact h.hd.lt
  · exact (h.items.lt q hq).2
  · exact (h.free.lt q hq).2
theorem RTab.slL (h : RTab w pr vL vF M) : ∃ a cap, vL = .slice a M.L.length cap := ownsRow_slice h.items
theorem RTab.slF (h : RTab w pr vL vF M) : ∃ a cap, vF = .slice a M.free.length cap := ownsRow_slice h.free

theorem rnew_w (w : World) (slots : Nat) (hs : slots ≤ 65536) :
    Calls Tryz.prog 41 #[.int .i64 slots] w fun e w' => ∃ pr, e = .returned (.tuple #[ptr pr, .int .i64 0]) ∧ RTab w' pr (.slice none 0 0) (.slice none 0 0) (Md.new slots) ∧ Fr [] w w' ∧ w.heap.size ≤ pr := by
  have hd0 : decide ((slots : Int) < 0) = false := decide_eq_false (by omega)
  have hd1 : decide ((slots : Int) > 65536) = false := decide_eq_false (by omega)
  go_enter Tryz.func41, Tryz.ntmps41
  go_wp2
  go_ret2
  have hb := Blk.new w [.bool true, .int .i64 slots, .slice none 0 0, .slice none 0 0, .int .i64 0] 115
  exact ⟨w.heap.size, rfl, ⟨hb, World.ownsRow_nil _ _ _ _, World.ownsRow_nil _ _ _ _, by simp [Value.ownBlock], by simp [Value.ownBlock], by simp [Value.ownBlock]⟩, (Fr.refl _ _).alloc _, Nat.le_refl _⟩
theorem rnew_bad (w : World) (n : Int) (hn : n < 0 ∨ 65536 < n) :
    Calls Tryz.prog 41 #[.int .i64 n] w fun e w' => e = .returned (.tuple #[.pointer none, .int .i64 2]) ∧ w' = w := by
  by_cases h : n < 0
  · have hd0 : decide (n < 0) = true := decide_eq_true h
    go_enter Tryz.func41, Tryz.ntmps41
    go_wp2
    go_ret2
    exact ⟨rfl, rfl⟩
  · have hd0 : decide (n < 0) = false := decide_eq_false h
    have hd1 : decide (n > 65536) = true := decide_eq_true (by omega)
    go_enter Tryz.func41, Tryz.ntmps41
    go_wp2
    go_ret2
    exact ⟨rfl, rfl⟩

theorem rvalid_w (h : RTab w pr vL vF M) : Calls Tryz.prog 83 #[ptr pr] w fun e w' => e = .returned (.bool true) ∧ w' = w := by
  have c0 := h.hd.cell 0
  simp only [List.getElem?_cons_zero] at c0
  go_enter Tryz.func83, Tryz.ntmps83
  go_wp2
  go_ret
  exact ⟨rfl, rfl⟩
theorem rvalid_nil (w : World) : Calls Tryz.prog 83 #[.pointer none] w fun e w' => e = .returned (.bool false) ∧ w' = w := by
  go_enter Tryz.func83, Tryz.ntmps83
  go_wp2
  go_ret
  exact ⟨rfl, rfl⟩

theorem rfind_w (h : RTab w pr vL vF M) (hL : M.L.length ≤ 65536) (id : Nat) :
    Calls Tryz.prog 84 #[ptr pr, .int .u64 id] w fun e w' => w' = w ∧ ((e = .returned (.int .i64 (-1)) ∧ M.find id = none) ∨ ∃ i, ∃ hi : i < M.L.length, e = .returned (.int .i64 i) ∧ M.L[i].1 = id) := by
  obtain ⟨a2, cap2, rfl⟩ := h.slL
  have c2 := h.hd.cell 2
  simp only [List.getElem?_cons_zero, List.getElem?_cons_succ] at c2
  have HE := Lib.hid h.items; clear h
  go_enter Tryz.func84, Tryz.ntmps84
  go_wp2
  go_loopw [5] (fun sy wr => wr = w ∧ ∃ j : Nat, j ≤ M.L.length ∧ sy = .int .i64 j ∧ Hid (∀ i (hi : i < M.L.length), i < j → M.L[i].1 ≠ id)) (fun sy _ => M.L.length - (intOf sy).toNat)
  case atStart => exact ⟨rfl, 0, Nat.zero_le _, rfl, Lib.hid (fun i _ h => absurd h (Nat.not_lt_zero _))⟩
  case round =>
    obtain ⟨rfl, j, hj, rfl, HN⟩ := hrel
    by_cases hjK : j < M.L.length
    · obtain ⟨b, cap, e, hb, q0, q1⟩ := item_at HE.out hjK
      simp only [Value.slice.injEq, true_and] at e
      obtain ⟨rfl, rfl⟩ := e
      have hj1 : (j : Int) < M.L.length := by omega
      have hj0 : (0 : Int) ≤ j := by omega
      by_cases he : M.L[j].1 = id
      · have hb1 : ((M.L[j].1 : Int) == (id : Int)) = true := by simp [he]
        have He := Lib.hid he; clear he
        generalize hx : M.L[j].1 = x at *
        have Hx := Lib.hid hx; clear hx
        go_wp2
        go_ret
        exact ⟨rfl, .inr ⟨j, hjK, rfl, by rw [Hx.out, He.out]⟩⟩
      · have hb1 : ((M.L[j].1 : Int) == (id : Int)) = false := by simp; omega
        have He := Lib.hid he; clear he
        generalize hx : M.L[j].1 = x at *
        have Hx := Lib.hid hx; clear hx
        go_wp2
        go_roundw
        case rel =>
          refine ⟨trivial, j + 1, by omega, by go_num, Lib.hid (fun i hi hlt => ?_)⟩
          by_cases e : i = j
          · subst e; rw [Hx.out]; exact He.out
          · exact HN.out i hi (by omega)
        case measure => simp [intOf]; omega
    · obtain rfl : j = M.L.length := by omega
      go_wp2
      go_ret
      refine ⟨rfl, .inl ⟨rfl, Md.find_none.2 (fun i hm => ?_)⟩⟩
      obtain ⟨k, hk, e⟩ := List.mem_iff_getElem.1 hm
      exact HN.out k hk hk (by rw [e])

theorem rget_w (h : RTab w pr vL vF M) (hok : M.Ok) (id : Nat) :
    Calls Tryz.prog 67 #[ptr pr, .int .u64 id] w fun e w' => e = .returned (.tuple #[.int .i64 ((M.find id).getD 0), .bool (M.find id).isSome]) ∧ w' = w := by
  have hcnt := hok.cnt
  have hb := hok.ar.hb
  have hs := hok.ar.hs
  simp only [Md.ar] at hb hs
  have HV := Lib.hid (rvalid_w h)
  have HF := Lib.hid (rfind_w h (by omega) id)
  obtain ⟨a2, cap2, rfl⟩ := h.slL
  have c2 := h.hd.cell 2
  simp only [List.getElem?_cons_zero, List.getElem?_cons_succ] at c2
  have HE := Lib.hid h.items; clear h
  have Hids := Lib.hid hok.ids
  clear hok
  generalize hR : M.find id = R at *
  have HR := Lib.hid hR; clear hR
  go_enter Tryz.func67, Tryz.ntmps67
  go_wp2_with fail
  refine HV.out.mono ?_
  rintro _ w ⟨rfl, rfl⟩
  go_wp2_with fail
  refine HF.out.mono ?_
  rintro _ w ⟨rfl, hr⟩
  rcases hr with ⟨rfl, hn⟩ | ⟨k, hk, rfl, he⟩
  · have Hn := Lib.hid hn; clear hn
    go_wp2
    go_ret2
    rw [Hn.out]
    exact ⟨rfl, rfl⟩
  · have hf := Md.mem_find Hids.out (show (id, M.L[k].2) ∈ M.L by rw [← he]; exact List.getElem_mem hk)
    rw [HR.out] at hf
    have Hf := Lib.hid hf
    obtain ⟨b, cap, e, hb, q0, q1⟩ := item_at HE.out hk
    simp only [Value.slice.injEq, true_and] at e
    obtain ⟨rfl, rfl⟩ := e
    clear hf he
    have hj1 : (k : Int) < M.L.length := by omega
    have hj0 : (0 : Int) ≤ k := by omega
    generalize M.L[k].2 = x at *
    generalize M.L[k].1 = y at *
    go_wp2
    go_ret2
    rw [Hf.out]
    exact ⟨rfl, rfl⟩

theorem rid_w (h : RTab w pr vL vF M) (hok : M.Ok) (i : Int) :
    Calls Tryz.prog 69 #[ptr pr, .int .i64 i] w fun e w' => e = .returned (.tuple #[.int .u64 ((if 0 ≤ i then M.idOf i.toNat else none).getD 0), .bool (if 0 ≤ i then M.idOf i.toNat else none).isSome]) ∧ w' = w := by
  have hcnt := hok.cnt
  have hb := hok.ar.hb
  have hs := hok.ar.hs
  simp only [Md.ar] at hb hs
  have HV := Lib.hid (rvalid_w h)
  obtain ⟨a2, cap2, rfl⟩ := h.slL
  have c2 := h.hd.cell 2
  simp only [List.getElem?_cons_zero, List.getElem?_cons_succ] at c2
  have HE := Lib.hid h.items; clear h
  have Hidx := Lib.hid hok.idx
  clear hok
  generalize hR : (if 0 ≤ i then M.idOf i.toNat else none) = R
  have HR := Lib.hid hR; clear hR
  go_enter Tryz.func69, Tryz.ntmps69
  go_wp2_with fail
  refine HV.out.mono ?_
  rintro _ w ⟨rfl, rfl⟩
  go_wp2
  go_loopw [6] (fun sy wr => wr = w ∧ ∃ j : Nat, j ≤ M.L.length ∧ sy = .int .i64 j ∧ Hid (∀ k (hi : k < M.L.length), k < j → (M.L[k].2 : Int) ≠ i)) (fun sy _ => M.L.length - (intOf sy).toNat)
  case atStart => exact ⟨rfl, 0, Nat.zero_le _, rfl, Lib.hid (fun i _ h => absurd h (Nat.not_lt_zero _))⟩
  case round =>
    obtain ⟨rfl, j, hj, rfl, HN⟩ := hrel
    by_cases hjK : j < M.L.length
    · obtain ⟨b, cap, e, hb, q0, q1⟩ := item_at HE.out hjK
      simp only [Value.slice.injEq, true_and] at e
      obtain ⟨rfl, rfl⟩ := e
      have hj1 : (j : Int) < M.L.length := by omega
      have hj0 : (0 : Int) ≤ j := by omega
      by_cases he : (M.L[j].2 : Int) = i
      · have hb1 : ((M.L[j].2 : Int) == i) = true := by simp [he]
        have hm : M.idOf i.toNat = some M.L[j].1 := Md.mem_idOf Hidx.out (by rw [← he, Int.toNat_natCast]; exact List.getElem_mem hjK)
        have hRe : R = some M.L[j].1 := by rw [← HR.out, if_pos (by omega), hm]
        have Hm := Lib.hid hRe; clear he hm hRe
        generalize M.L[j].1 = x at *
        generalize M.L[j].2 = y at *
        go_wp2
        go_ret2
        rw [Hm.out]
        exact ⟨rfl, rfl⟩
      · have hb1 : ((M.L[j].2 : Int) == i) = false := by simp [he]
        have He := Lib.hid he; clear he
        generalize hx : M.L[j].2 = x at *
        have Hx := Lib.hid hx; clear hx
        go_wp2
        go_roundw
        case rel =>
          refine ⟨trivial, j + 1, by omega, by go_num, Lib.hid (fun i hi hlt => ?_)⟩
          by_cases e : i = j
          · subst e; rw [Hx.out]; exact He.out
          · exact HN.out i hi (by omega)
        case measure => simp [intOf]; omega
    · obtain rfl : j = M.L.length := by omega
      have hRn : R = none := by
        rw [← HR.out]
        split
        · rw [Md.idOf_none]
          intro id hm
          obtain ⟨k, hk, e⟩ := List.mem_iff_getElem.1 hm
          refine HN.out k hk hk ?_
          rw [e]; simp; omega
        · rfl
      have HRn := Lib.hid hRn; clear hRn
      go_wp2
      go_ret2
      rw [HRn.out]
      exact ⟨rfl, rfl⟩

end
end Go.Proofs.YtbegdgnhpklceaaGreat

/- 'append(nil, s...)': a copy of a row of one's own. -/
namespace Go.Proofs.YtbegdgnhpklceaaGreat
open Go.RowKit

theorem ownsRow_base0 {w : World} {base : Nat} {e : TypeId} {size : Nat} {v : Value} {n : Nat} {xs : List Value} (h : w.ownsRow base e size v n xs) : w.ownsRow 0 e size v n xs :=
  ⟨h.1, h.2.elim .inl (fun ⟨g, cap, cur, k1, _, k3⟩ => .inr ⟨g, cap, cur, k1, Nat.zero_le _, k3⟩)⟩
theorem run_app_nil {P : Program} (w : World) (t ty e : TypeId) (i : TypeInfo) (z : Value) (size bytes : Nat) (ht : P.underlying t = some (.slice e)) (hi : P.info? e = some i) (hz : i.zero = some z)
    (hsize : i.size = size) (hby : i.bytes = bytes) (hzs : z.cells.size = size) (hsz : 0 < size)
    (x : Value) (m : Nat) (news : List Value) (hx : w.ownsRow 0 e size x m news) (h1 : ∀ u ∈ news, u.oneCell' = true) (h63 : m ≤ maxLen) (hbytes : m * bytes ≤ 140737488355328) :
    ∃ v' w', (Builtin.append_ #[t, t] ty #[.slice none 0 0, x]).run P w = .ok v' w' ∧ w'.ownsRow 0 e size v' m news ∧ Fr [] w w' ∧ ∀ q, v'.ownBlock = some q → w.heap.size ≤ q := by
  have hn : w.ownsRow w.heap.size e size (.slice none 0 0) 0 [] := World.ownsRow_nil _ _ _ _
  have hxs := hx.1
  rcases hx.2 with ⟨rfl, rfl⟩ | ⟨g, cap, cur, rfl, _, hg, hnc, hcm, hcs, htake⟩
  · refine ⟨_, _, run_append_owned_none w w.heap.size t ty e i size ht hi _ 0 [] hn, hx, Fr.refl _ _, fun q e => by cases e⟩
  · obtain ⟨v', w', hr, h2, h3, _⟩ := run_append_own (P := P) w w.heap.size t ty e i z size bytes ht hi hz hsize hby hzs hsz (.slice none 0 0) 0 [] hn ⟨g, 0, none⟩ m cap news hxs (hx.cells (g := g) rfl) h1 (by simpa using h63) (by simpa using hbytes) (Nat.le_refl _)
    simp only [Nat.zero_add, List.nil_append] at h2
    refine ⟨v', w', hr, ownsRow_base0 h2, ⟨h3.os, h3.tape, h3.output, h3.size, fun k hk _ => h3.block k hk (by simp [Value.ownBlock])⟩, fun q hq => ?_⟩
    rcases h2.2 with ⟨rfl, _⟩ | ⟨g', cap', cur', rfl, hgb, _⟩
    · cases hq
    · simp [Value.ownBlock] at hq; omega
theorem wp_app_nil {P : Program} {w : World} {o : Oper} {a : Act} {K : Act → World → Prop} {Q : Exit → Act → World → Prop} (s x : Operand) (t : TypeId)
    (ho : o.op = .call { callee := .builtin .append, args := #[s, x], argTypes := #[t, t] })
    (e : TypeId) (z : Value) (size bytes : Nat) (ht : P.underlying t = some (.slice e)) (hinfo : (P.info? e).map (fun i => (i.zero, i.size, i.bytes)) = some (some z, size, bytes)) (hzs : z.cells.size = size) (hsz : 0 < size)
    (hs : a.eval s = .slice none 0 0) (v : Value) (m : Nat) (news : List Value) (hv : a.eval x = v) (hx : w.ownsRow 0 e size v m news) (h1 : ∀ u ∈ news, u.oneCell' = true) (h63 : m ≤ maxLen) (hbytes : m * bytes ≤ 140737488355328)
    (h : ∀ v' w', w'.ownsRow 0 e size v' m news → Fr [] w w' → (∀ q, v'.ownBlock = some q → w.heap.size ≤ q) → K (a.put o.dst v') w') : o.wp P a w K Q := by
  obtain ⟨i0, hi, hz0, hz1, hz2⟩ := info_parts hinfo
  obtain ⟨v', w', hr, h2, h3, h4⟩ := run_app_nil (P := P) w t o.type e i0 z size bytes ht hi hz0 hz1 hz2 hzs hsz v m news hx h1 h63 hbytes
  unfold Oper.wp execOp
  simp only [ho, resolve, invoke, builtin, Sem.run_bind, Sem.run_pure, Result.andThen_ok, List.map_toArray, List.map_cons, List.map_nil, hs, hv, hr]
  exact h v' w' h2 h3 h4
theorem step_app_nil {P : Program} {w : World} {ops : Array Oper} {o : Oper} {a : Act} {K : Act → World → Prop} {Q : Exit → Act → World → Prop} {E : Prop} (hgd : o.guard = none) (s x : Operand) (t : TypeId)
    (ho : o.op = .call { callee := .builtin .append, args := #[s, x], argTypes := #[t, t] })
    (e : TypeId) (z : Value) (size bytes : Nat) (ht : P.underlying t = some (.slice e)) (hinfo : (P.info? e).map (fun i => (i.zero, i.size, i.bytes)) = some (some z, size, bytes)) (hzs : z.cells.size = size) (hsz : 0 < size)
    (hs : a.eval s = .slice none 0 0) (v : Value) (m : Nat) (news : List Value) (hv : a.eval x = v) (hx : w.ownsRow 0 e size v m news) (h1 : ∀ u ∈ news, u.oneCell' = true) (h63 : m ≤ maxLen) (hbytes : m * bytes ≤ 140737488355328)
    (h : ∀ v' w', w'.ownsRow 0 e size v' m news → Fr [] w w' → (∀ q, v'.ownBlock = some q → w.heap.size ≤ q) → K (a.put o.dst v') w') :
    if Region.wanted o (yielded ops a.tmps) = true then Oper.wp P o a w K Q else E := by
  rw [if_pos (by simp [Region.wanted, hgd])]
  exact wp_app_nil s x t ho e z size bytes ht hinfo hzs hsz hs v m news hv hx h1 h63 hbytes h
theorem wpList_app_nil {P : Program} {w : World} {ops : Array Oper} {rest : List Oper} {o : Oper} {a : Act} {Q : Exit → Act → World → Prop} (hgd : o.guard = none) (s x : Operand) (t : TypeId)
    (ho : o.op = .call { callee := .builtin .append, args := #[s, x], argTypes := #[t, t] })
    (e : TypeId) (z : Value) (size bytes : Nat) (ht : P.underlying t = some (.slice e)) (hinfo : (P.info? e).map (fun i => (i.zero, i.size, i.bytes)) = some (some z, size, bytes)) (hzs : z.cells.size = size) (hsz : 0 < size)
    (hs : a.eval s = .slice none 0 0) (v : Value) (m : Nat) (news : List Value) (hv : a.eval x = v) (hx : w.ownsRow 0 e size v m news) (h1 : ∀ u ∈ news, u.oneCell' = true) (h63 : m ≤ maxLen) (hbytes : m * bytes ≤ 140737488355328)
    (h : ∀ v' w', w'.ownsRow 0 e size v' m news → Fr [] w w' → (∀ q, v'.ownBlock = some q → w.heap.size ≤ q) → wpList P ops Q rest (a.put o.dst v') w') : wpList P ops Q (o :: rest) a w := by
  exact wpList_plain hgd fun K hK => wp_app_nil s x t ho e z size bytes ht hinfo hzs hsz hs v m news hv hx h1 h63 hbytes fun v' w' h2 h3 h4 => hK _ _ (h v' w' h2 h3 h4)
end Go.Proofs.YtbegdgnhpklceaaGreat

/- 'append' of one element of several cells; 'append' at a step of a region that draws its order; onto an empty slice that was just made. -/
namespace Go.Proofs.YtbegdgnhpklceaaGreat
open Go.RowKit

theorem wp_app {P : Program} {w : World} {o : Oper} {a : Act} {K : Act → World → Prop} {Q : Exit → Act → World → Prop} (s x : Operand) (t : TypeId)
    (ho : o.op = .call { callee := .builtin .append, args := #[s, x], argTypes := #[t, t] })
    (e : TypeId) (z : Value) (size bytes : Nat) (ht : P.underlying t = some (.slice e)) (hinfo : (P.info? e).map (fun i => (i.zero, i.size, i.bytes)) = some (some z, size, bytes)) (hzs : z.cells.size = size) (hsz : 0 < size)
    (v : Value) (n : Nat) (xs : List Value) (hs : a.eval s = v) (hown : w.ownsRow 0 e size v n xs)
    (b : Nat) (et : TypeId) (news : List Value) (hx : a.eval x = .slice (some ⟨b, 0, none⟩) 1 1) (hb : Blk w b et news) (hl : news.length = size) (h1 : ∀ u ∈ news, u.oneCell' = true)
    (hn : n + 1 ≤ 4294967296) (hby : bytes ≤ 1024)
    (h : ∀ g cap w', w'.ownsRow 0 e size (.slice (some ⟨g, 0, none⟩) (n + 1) cap) (n + 1) (xs ++ news) → w.grownBy w' v.ownBlock → (v.ownBlock = some g ∨ w.heap.size ≤ g) →
      K (a.put o.dst (.slice (some ⟨g, 0, none⟩) (n + 1) cap)) w') : o.wp P a w K Q := by
  obtain ⟨i0, hi, hz0, hz1, hz2⟩ := info_parts hinfo
  have hbb : (n + 1) * bytes ≤ 140737488355328 := by
    have : (n + 1) * bytes ≤ 4294967296 * 1024 := Nat.mul_le_mul hn hby
    omega
  obtain ⟨g, cap, w', hr, h2, h3, h4⟩ := run_app (P := P) w t o.type e i0 z size bytes ht hi hz0 hz1 hz2 hzs hsz v n xs hown ⟨b, 0, none⟩ 1 1 news (by rw [Nat.one_mul]; exact hl) (fun j u hj => by rw [Addr.add_lit, Nat.zero_add, hb.cell]; exact hj) h1 (by decide) (by unfold maxLen; omega) hbb
  unfold Oper.wp execOp
  simp only [ho, resolve, invoke, builtin, Sem.run_bind, Sem.run_pure, Result.andThen_ok, List.map_toArray, List.map_cons, List.map_nil, hs, hx, hr]
  exact h g cap w' h2 h3 h4

/-- 'append(s, x)': one element, which lies in a block of its own. -/
theorem wpList_appK {P : Program} {w : World} {ops : Array Oper} {rest : List Oper} {o : Oper} {a : Act} {Q : Exit → Act → World → Prop} (hgd : o.guard = none) (s x : Operand) (t : TypeId)
    (ho : o.op = .call { callee := .builtin .append, args := #[s, x], argTypes := #[t, t] })
    (e : TypeId) (z : Value) (size bytes : Nat) (ht : P.underlying t = some (.slice e)) (hinfo : (P.info? e).map (fun i => (i.zero, i.size, i.bytes)) = some (some z, size, bytes)) (hzs : z.cells.size = size) (hsz : 0 < size)
    (v : Value) (n : Nat) (xs : List Value) (hs : a.eval s = v) (hown : w.ownsRow 0 e size v n xs)
    (b : Nat) (et : TypeId) (news : List Value) (hx : a.eval x = .slice (some ⟨b, 0, none⟩) 1 1) (hb : Blk w b et news) (hl : news.length = size) (h1 : ∀ u ∈ news, u.oneCell' = true)
    (hn : n + 1 ≤ 4294967296) (hby : bytes ≤ 1024)
    (h : ∀ g cap w', w'.ownsRow 0 e size (.slice (some ⟨g, 0, none⟩) (n + 1) cap) (n + 1) (xs ++ news) → w.grownBy w' v.ownBlock → (v.ownBlock = some g ∨ w.heap.size ≤ g) →
      wpList P ops Q rest (a.put o.dst (.slice (some ⟨g, 0, none⟩) (n + 1) cap)) w') : wpList P ops Q (o :: rest) a w :=
  wpList_plain hgd fun _ hK => wp_app s x t ho e z size bytes ht hinfo hzs hsz v n xs hs hown b et news hx hb hl h1 hn hby fun g cap w' h2 h3 h4 => hK _ _ (h g cap w' h2 h3 h4)

theorem step_appK {P : Program} {w : World} {ops : Array Oper} {o : Oper} {a : Act} {K : Act → World → Prop} {Q : Exit → Act → World → Prop} {E : Prop} (hgd : o.guard = none) (s x : Operand) (t : TypeId)
    (ho : o.op = .call { callee := .builtin .append, args := #[s, x], argTypes := #[t, t] })
    (e : TypeId) (z : Value) (size bytes : Nat) (ht : P.underlying t = some (.slice e)) (hinfo : (P.info? e).map (fun i => (i.zero, i.size, i.bytes)) = some (some z, size, bytes)) (hzs : z.cells.size = size) (hsz : 0 < size)
    (v : Value) (n : Nat) (xs : List Value) (hs : a.eval s = v) (hown : w.ownsRow 0 e size v n xs)
    (b : Nat) (et : TypeId) (news : List Value) (hx : a.eval x = .slice (some ⟨b, 0, none⟩) 1 1) (hb : Blk w b et news) (hl : news.length = size) (h1 : ∀ u ∈ news, u.oneCell' = true)
    (hn : n + 1 ≤ 4294967296) (hby : bytes ≤ 1024)
    (h : ∀ g cap w', w'.ownsRow 0 e size (.slice (some ⟨g, 0, none⟩) (n + 1) cap) (n + 1) (xs ++ news) → w.grownBy w' v.ownBlock → (v.ownBlock = some g ∨ w.heap.size ≤ g) →
      K (a.put o.dst (.slice (some ⟨g, 0, none⟩) (n + 1) cap)) w') :
    if Region.wanted o (yielded ops a.tmps) = true then Oper.wp P o a w K Q else E := by
  rw [if_pos (by simp [Region.wanted, hgd])]
  exact wp_app s x t ho e z size bytes ht hinfo hzs hsz v n xs hs hown b et news hx hb hl h1 hn hby h

/-- 'append([]T{}, s...)'. -/
theorem run_app_mt {P : Program} (w : World) (t ty e : TypeId) (i : TypeInfo) (z : Value) (size bytes : Nat) (ht : P.underlying t = some (.slice e)) (hi : P.info? e = some i) (hz : i.zero = some z)
    (hsize : i.size = size) (hby : i.bytes = bytes) (hzs : z.cells.size = size) (hsz : 0 < size)
    (g : Nat) (hg : Blk w g e []) (x : Value) (m : Nat) (news : List Value) (hx : w.ownsRow 0 e size x m news) (h1 : ∀ u ∈ news, u.oneCell' = true) (h63 : m ≤ maxLen) (hbytes : m * bytes ≤ 140737488355328) :
    ∃ v' w', (Builtin.append_ #[t, t] ty #[.slice (some ⟨g, 0, none⟩) 0 0, x]).run P w = .ok v' w' ∧ w'.ownsRow 0 e size v' m news ∧ Fr [g] w w' ∧ ∀ q, v'.ownBlock = some q → q = g ∨ w.heap.size ≤ q := by
  have hn : w.ownsRow g e size (.slice (some ⟨g, 0, none⟩) 0 0) 0 [] := ⟨by simp, .inr ⟨g, 0, #[], rfl, Nat.le_refl _, hg, Nat.le_refl _, Nat.zero_le _, by simp, by simp⟩⟩
  have hxs := hx.1
  rcases hx.2 with ⟨rfl, rfl⟩ | ⟨gx, cap, cur, rfl, _, hgx, hnc, hcm, hcs, htake⟩
  · have hnil : news = [] := List.eq_nil_of_length_eq_zero (by simpa using hxs)
    subst hnil
    refine ⟨_, _, run_append_owned_none w g t ty e i size ht hi _ 0 [] hn, ?_, Fr.refl _ _, fun q e => ?_⟩
    · exact ⟨by simp, .inr ⟨g, 0, #[], rfl, Nat.zero_le _, hg, Nat.le_refl _, Nat.zero_le _, by simp, by simp⟩⟩
    · simp [Value.ownBlock] at e; exact .inl e.symm
  · obtain ⟨v', w', hr, h2, h3, _, h5⟩ := run_append_own_at (P := P) w g t ty e i z size bytes ht hi hz hsize hby hzs hsz (.slice (some ⟨g, 0, none⟩) 0 0) 0 [] hn ⟨gx, 0, none⟩ m cap news hxs (hx.cells (g := gx) rfl) h1 (by simpa using h63) (by simpa using hbytes) (Nat.le_of_lt hg.lt)
    simp only [Nat.zero_add, List.nil_append] at h2
    refine ⟨v', w', hr, ownsRow_base0 h2, ⟨h3.os, h3.tape, h3.output, h3.size, fun k hk hn => h3.block k hk (fun e => hn (by simp [Value.ownBlock] at e; simp [e]))⟩, fun q hq => ?_⟩
    rcases h5 with h5 | h5
    · rw [hq] at h5; simp [Value.ownBlock] at h5; exact .inl h5
    · rw [hq] at h5; simp at h5; exact .inr (by omega)
theorem wp_app_mt {P : Program} {w : World} {o : Oper} {a : Act} {K : Act → World → Prop} {Q : Exit → Act → World → Prop} (s x : Operand) (t : TypeId)
    (ho : o.op = .call { callee := .builtin .append, args := #[s, x], argTypes := #[t, t] })
    (e : TypeId) (z : Value) (size bytes : Nat) (ht : P.underlying t = some (.slice e)) (hinfo : (P.info? e).map (fun i => (i.zero, i.size, i.bytes)) = some (some z, size, bytes)) (hzs : z.cells.size = size) (hsz : 0 < size)
    (g : Nat) (hs : a.eval s = .slice (some ⟨g, 0, none⟩) 0 0) (hg : Blk w g e []) (v : Value) (m : Nat) (news : List Value) (hv : a.eval x = v) (hx : w.ownsRow 0 e size v m news) (h1 : ∀ u ∈ news, u.oneCell' = true) (h63 : m ≤ maxLen) (hbytes : m * bytes ≤ 140737488355328)
    (h : ∀ v' w', w'.ownsRow 0 e size v' m news → Fr [g] w w' → (∀ q, v'.ownBlock = some q → q = g ∨ w.heap.size ≤ q) → K (a.put o.dst v') w') : o.wp P a w K Q := by
  obtain ⟨i0, hi, hz0, hz1, hz2⟩ := info_parts hinfo
  obtain ⟨v', w', hr, h2, h3, h4⟩ := run_app_mt (P := P) w t o.type e i0 z size bytes ht hi hz0 hz1 hz2 hzs hsz g hg v m news hx h1 h63 hbytes
  unfold Oper.wp execOp
  simp only [ho, resolve, invoke, builtin, Sem.run_bind, Sem.run_pure, Result.andThen_ok, List.map_toArray, List.map_cons, List.map_nil, hs, hv, hr]
  exact h v' w' h2 h3 h4
theorem step_app_mt {P : Program} {w : World} {ops : Array Oper} {o : Oper} {a : Act} {K : Act → World → Prop} {Q : Exit → Act → World → Prop} {E : Prop} (hgd : o.guard = none) (s x : Operand) (t : TypeId)
    (ho : o.op = .call { callee := .builtin .append, args := #[s, x], argTypes := #[t, t] })
    (e : TypeId) (z : Value) (size bytes : Nat) (ht : P.underlying t = some (.slice e)) (hinfo : (P.info? e).map (fun i => (i.zero, i.size, i.bytes)) = some (some z, size, bytes)) (hzs : z.cells.size = size) (hsz : 0 < size)
    (g : Nat) (hs : a.eval s = .slice (some ⟨g, 0, none⟩) 0 0) (hg : Blk w g e []) (v : Value) (m : Nat) (news : List Value) (hv : a.eval x = v) (hx : w.ownsRow 0 e size v m news) (h1 : ∀ u ∈ news, u.oneCell' = true) (h63 : m ≤ maxLen) (hbytes : m * bytes ≤ 140737488355328)
    (h : ∀ v' w', w'.ownsRow 0 e size v' m news → Fr [g] w w' → (∀ q, v'.ownBlock = some q → q = g ∨ w.heap.size ≤ q) → K (a.put o.dst v') w') :
    if Region.wanted o (yielded ops a.tmps) = true then Oper.wp P o a w K Q else E := by
  rw [if_pos (by simp [Region.wanted, hgd])]
  exact wp_app_mt s x t ho e z size bytes ht hinfo hzs hsz g hs hg v m news hv hx h1 h63 hbytes h
end Go.Proofs.YtbegdgnhpklceaaGreat

namespace Go.Proofs.YtbegdgnhpklceaaGreat
open Go.RowKit
set_option maxRecDepth 10000
set_option maxHeartbeats 800000

def itemZ : Value := .agg #[.int .u64 0, .int .i64 0]
theorem Tryz.infoItem : (Tryz.prog.info? 126).map (fun i => (i.zero, i.size, i.bytes)) = some (some itemZ, 2, 16) := by kernel_rfl

section
variable {w w' : World} {pr : Nat} {vL vF : Value} {M : Md}

theorem RTab.addL (h : RTab w pr vL vF M) {w4 : World} {g' cap' id i : Nat} (box : Obj)
    (hown : w4.ownsRow 0 126 2 (.slice (some ⟨g', 0, none⟩) (M.L.length + 1) cap') (M.L.length + 1) (itemCells M.L ++ [.int .u64 id, .int .i64 i]))
    (hgrow : (w.alloc box).grownBy w4 vL.ownBlock) (hg : vL.ownBlock = some g' ∨ (w.alloc box).heap.size ≤ g') :
    RTab (w4.setCell ⟨pr, 2, none⟩ (.slice (some ⟨g', 0, none⟩) (M.L.length + 1) cap')) pr (.slice (some ⟨g', 0, none⟩) (M.L.length + 1) cap') vF { M with L := M.L ++ [(id, i)] } ∧
      Fr (rTB pr vL vF) w (w4.setCell ⟨pr, 2, none⟩ (.slice (some ⟨g', 0, none⟩) (M.L.length + 1) cap')) ∧ ∀ q ∈ rTB pr (.slice (some ⟨g', 0, none⟩) (M.L.length + 1) cap') vF, q ∈ rTB pr vL vF ∨ w.heap.size ≤ q := by
  have hlp := h.hd.lt
  simp only [World.size_alloc] at hg
  have hF4 : Fr vL.ownBlock.toList w w4 := ((Fr.refl _ _).alloc _).grown hgrow (fun q e => .inl (by simp [e]))
  have hd4 : Blk w4 pr 115 [.bool true, .int .i64 M.slots, vL, vF, .int .i64 M.given] := hF4.blk h.hd (fun hm => h.apL (by simpa using hm))
  have hg' : g' ≠ pr := by
    rintro rfl
    rcases hg with e | e
    · exact h.apL e
    · omega
  refine ⟨⟨hd4.set 2 _, ?_, ?_, ?_, h.apF, ?_⟩, ?_, ?_⟩
  · simp only [itemCells_snoc, List.length_append, List.length_cons, List.length_nil, Nat.zero_add]
    exact ownsRow_other hown _ _ (by simpa [Value.ownBlock] using hg')
  · exact ownsRow_other (ownsRow_same h.free (fun q hq => hF4.keep q (h.free.lt q hq).2 (fun hm => h.apLF q (by simpa using hm) hq))) _ _ h.apF
  · simpa [Value.ownBlock] using hg'
  · intro q hq e
    simp only [Value.ownBlock, Option.some.injEq] at hq
    subst hq
    rcases hg with hh | hh
    · exact h.apLF _ hh e
    · have := (h.free.lt _ e).2; omega
  · refine (hF4.mono (fun q hq => .inl ?_)).setCell _ _ (.inl (by simp [rTB]))
    simp only [rTB, List.mem_cons, List.mem_append]; exact .inr (.inl hq)
  · intro q hq
    have e1 : (Value.slice (some ⟨g', 0, none⟩) (M.L.length + 1) cap').ownBlock = some g' := rfl
    simp only [rTB, e1, Option.toList_some, List.cons_append, List.nil_append, List.mem_cons] at hq ⊢
    rcases hq with rfl | rfl | hq
    · exact .inl (.inl rfl)
    · rcases hg with e | e
      · exact .inl (.inr (List.mem_append.2 (.inl (by rw [e]; simp))))
      · exact .inr (by omega)
    · exact .inl (.inr (List.mem_append.2 (.inr hq)))

theorem Blk.new' (w : World) {n : Nat} (l : List Value) (t : TypeId) (h : w.heap.size = n) : Blk (w.alloc (.cells l.toArray t)) n t l := by
  subst h; exact Blk.new w l t
theorem RTab.setGiven (h : RTab w pr vL vF M) (k : Nat) {x : Int} (hx : x = (k : Int)) : RTab (w.setCell ⟨pr, 4, none⟩ (.int .i64 x)) pr vL vF { M with given := k } := by
  subst hx
  exact ⟨h.hd.set 4 _, ownsRow_other h.items _ _ h.apL, ownsRow_other h.free _ _ h.apF, h.apL, h.apF, h.apLF⟩

theorem RTab.setF (h : RTab w pr vL vF M) {v' : Value} {F : List Nat} (hv : w.ownsRow 0 3 1 v' F.length (encN F.reverse)) (hp : v'.ownBlock ≠ some pr) (hL : ∀ q, vL.ownBlock = some q → v'.ownBlock ≠ some q) :
    RTab (w.setCell ⟨pr, 3, none⟩ v') pr vL v' { M with free := F } :=
  ⟨h.hd.set 3 _, ownsRow_other h.items _ _ h.apL, ownsRow_other hv _ _ hp, h.apL, hp, hL⟩
theorem ownsRow_prefix {w : World} {base : Nat} {e : TypeId} {size : Nat} {g n m cap : Nat} {xs ys : List Value} (h : w.ownsRow base e size (.slice (some ⟨g, 0, none⟩) (n + m) cap) (n + m) (xs ++ ys)) (hx : xs.length = n * size) :
    w.ownsRow base e size (.slice (some ⟨g, 0, none⟩) n cap) n xs := by
  obtain ⟨h1, h2⟩ := h
  rcases h2 with ⟨h2, _⟩ | ⟨g', cap', cur, e1, hb, hh, hn, hm, hsz, hxs⟩
  · cases h2
  · simp only [Value.slice.injEq, Option.some.injEq, Addr.mk.injEq, and_true, true_and] at e1
    obtain ⟨rfl, rfl⟩ := e1
    refine ⟨hx, .inr ⟨g, cap, cur, rfl, hb, hh, by omega, hm, hsz, ?_⟩⟩
    have := congrArg (List.take (n * size)) hxs
    have e2 : (xs ++ ys).take (n * size) = xs := by rw [← hx, List.take_left']; rfl
    rw [List.take_take, Nat.min_eq_left (Nat.mul_le_mul_right _ (by omega)), e2] at this
    exact this

theorem rput_w (h : RTab w pr vL vF M) (hok : M.Ok) (id : Nat) :
    Calls Tryz.prog 45 #[ptr pr, .int .u64 id] w fun e w' => e = .returned (.tuple #[.int .i64 (M.put id).idx, .bool (M.put id).added, .int .i64 (M.put id).err]) ∧
      ∃ vL' vF', RTab w' pr vL' vF' (M.put id).M ∧ Fr (rTB pr vL vF) w w' ∧ ∀ q ∈ rTB pr vL' vF', q ∈ rTB pr vL vF ∨ w.heap.size ≤ q := by
  have hcnt := hok.cnt
  have hb := hok.ar.hb
  have hs := hok.ar.hs
  simp only [Md.ar] at hb hs
  have HV := Lib.hid (rvalid_w h)
  have HF := Lib.hid (rfind_w h (by omega) id)
  obtain ⟨a2, cap2, rfl⟩ := h.slL
  obtain ⟨a3, cap3, rfl⟩ := h.slF
  have Hids := Lib.hid hok.ids
  clear hok
  have HR := Lib.hid h; clear h
  generalize hP : M.put id = P at *
  have HP := Lib.hid hP; clear hP
  go_enter Tryz.func45, Tryz.ntmps45
  go_wp2_with fail
  refine HV.out.mono ?_
  rintro _ w ⟨rfl, rfl⟩
  go_wp2_with fail
  refine HF.out.mono ?_
  rintro _ w ⟨rfl, hr⟩
  clear HF HV
  have c1 := HR.out.hd.cell 1
  have c2 := HR.out.hd.cell 2
  have c3 := HR.out.hd.cell 3
  have c4 := HR.out.hd.cell 4
  simp only [List.getElem?_cons_zero, List.getElem?_cons_succ] at c1 c2 c3 c4
  rcases hr with ⟨rfl, hn⟩ | ⟨k, hk, rfl, he⟩
  · by_cases hfull : M.L.length = M.slots
    · have hp : P = ⟨0, false, 4, M⟩ := by
        rw [← HP.out]; unfold Md.put; rw [hn]
        have : M.next = none := by
          unfold Md.next
          have : M.free = [] := List.eq_nil_of_length_eq_zero (by omega)
          rw [this]; simp; simp [this] at hcnt; omega
        rw [this]
      have Hp := Lib.hid hp; clear hp
      have t1 : ((M.L.length : Int) == (M.slots : Int)) = true := by simp; omega
      have t2 : decide ((-1 : Int) ≥ 0) = false := by decide
      clear hn hfull
      go_wp2
      go_quiet (fail)
      go_wp2
      go_ret3
      rw [Hp.out]
      exact ⟨rfl, _, _, HR.out.drewN _, (Fr.refl _ _).drewN _, fun q hq => .inl hq⟩
    · have t1 : ((M.L.length : Int) == (M.slots : Int)) = false := by simp; omega
      have t2 : decide ((-1 : Int) ≥ 0) = false := by decide
      cases hfr : M.free with
      | nil =>
        rw [hfr] at hcnt
        simp only [List.length_nil, Nat.add_zero] at hcnt
        have hp : P = ⟨M.given, true, 0, M.add id M.given⟩ := by
          rw [← HP.out]; unfold Md.put; rw [hn]
          have : M.next = some M.given := by unfold Md.next; rw [hfr]; simp; omega
          rw [this]
        have hadd : M.add id M.given = { M with given := M.given + 1, L := M.L ++ [(id, M.given)] } := by
          obtain ⟨s, L, f, g⟩ := M
          simp only at hfr; subst hfr; rfl
        rw [hadd] at hp
        have Hp := Lib.hid hp; clear hp hadd
        have hfl : M.free.length = 0 := by rw [hfr]; rfl
        rw [hfl] at c3
        have hgl : M.given ≤ 65536 := by omega
        have hLl : M.L.length ≤ 65536 := by omega
        clear hn hfull hfr hcnt hfl
        have f4 := HR.out.hd.frozen 4
        have f2 := HR.out.hd.frozen 2
        go_wp2
        go_quiet (fail)
        have HR1 := Lib.hid (fun (x : Int) (hx : x = ((M.given + 1 : Nat) : Int)) => (HR.out.drewN nq).setGiven (M.given + 1) hx)
        go_wp2_with (at_builtin; refine wpList_appK rfl _ _ 113 rfl 126 itemZ 2 16 Tryz.underlying113 Tryz.infoItem rfl (by decide) (.slice a2 M.L.length cap2) M.L.length _ rfl ((HR1.out _ (by omega)).items.alloc _) w.heap.size 126 [.int .u64 id, .int .i64 M.given] rfl (Blk.new' _ _ _ (by simp)) rfl (by simp [Value.oneCell']) (by omega) (by decide) ?_; intro g' cap' w4 hown4 hgrow4 hg4; obtain ⟨hR4, hF4, hq4⟩ := RTab.addL (HR1.out _ (by omega)) _ hown4 hgrow4 hg4; have hk4 := (((Fr.refl _ _).alloc _).grown (S := (Value.slice a2 M.L.length cap2).ownBlock.toList) hgrow4 (fun q e => .inl (by simp [e]))).blk (HR1.out _ (by omega)).hd (fun hm => HR.out.apL (by simpa using hm)); have z4 := hk4.frozen 2; have y4 := hk4.cell 2; simp only [List.getElem?_cons_zero, List.getElem?_cons_succ] at y4)
        go_ret3
        rw [Hp.out]
        refine ⟨rfl, _, _, hR4, ((Fr.refl _ _).drewN nq |>.setCell _ _ (.inl (by simp [rTB]))).trans' hF4, fun q hq => (hq4 q hq).imp (fun h => h) (fun h => by simpa using h)⟩
      | cons x r =>
        have hfl : M.free.length = r.length + 1 := by rw [hfr]; rfl
        have hp : P = ⟨x, true, 0, { M with free := r, L := M.L ++ [(id, x)] }⟩ := by
          rw [← HP.out]; unfold Md.put; rw [hn]
          have : M.next = some x := by unfold Md.next; rw [hfr]
          rw [this]
          obtain ⟨s, L, f, g⟩ := M
          simp only at hfr; subst hfr; rfl
        have Hp := Lib.hid hp; clear hp hn
        have hrow := HR.out.free
        obtain ⟨g3, cap3', e, hcp3, hg3, hc3, _⟩ := ownsRow_at hrow (show M.free.length - 1 < M.free.length by omega)
        simp only [Value.slice.injEq, true_and] at e
        obtain ⟨rfl, rfl⟩ := e
        have hx : (encN M.free.reverse)[M.free.length - 1]? = some (.int .i64 (x : Nat)) := by rw [hfr]; simp [encN]
        rw [hx] at hc3
        have hpre : w.ownsRow 0 3 1 (.slice (some ⟨g3, 0, none⟩) r.length cap3) r.length (encN r.reverse) := by
          rw [hfl, hfr] at hrow
          refine ownsRow_prefix (m := 1) (ys := [.int .i64 x]) ?_ (by simp [encN])
          simpa [encN] using hrow
        have Hpre := Lib.hid hpre; clear hpre
        rw [hfl] at c3 hc3
        simp only [Nat.add_sub_cancel] at hc3
        have hrl : r.length ≤ 65536 := by omega
        have hLl : M.L.length ≤ 65536 := by omega
        have hcp3' : r.length + 1 ≤ cap3 := by omega
        clear hx hrow hfr hfl hcnt hcp3
        have hw1 : IntKind.i64.wrap ((r.length : Int) + 1 - 1) = r.length := by rw [show (r.length : Int) + 1 - 1 = r.length by omega]; exact IntWalk.i64_in _ (by omega)
        have hw0 : (0 : Int) ≤ (r.length : Int) + 1 - 1 := by omega
        have hw2 : (r.length : Int) < (r.length : Int) + 1 := by omega
        have hr0 : (0 : Int) ≤ (r.length : Int) := by omega
        have hw3 : IntKind.i64.wrap (r.length : Int) = r.length := IntWalk.i64_in _ (by omega)
        have hw4 : (r.length : Int) ≤ (cap3 : Int) := by omega
        go_wp2
        go_quiet (fail)
        have HR0 := Lib.hid (HR.out.drewN nq)
        have HF0 := Lib.hid ((Fr.refl [] w).drewN nq)
        have hc3' : (w.drewN nq).cell? ⟨g3, r.length, none⟩ = some (.int .i64 x) := hc3
        have c3' : (w.drewN nq).cell? ⟨pr, 3, none⟩ = some (.slice (some ⟨g3, 0, none⟩) (r.length + 1) cap3) := c3
        have c4' : (w.drewN nq).cell? ⟨pr, 4, none⟩ = some (.int .i64 M.given) := c4
        clear c1 c2 c3 c4 hc3
        generalize w.drewN nq = w0 at *
        go_wp2
        go_quiet (fail)
        have HR1 := Lib.hid (HR0.out.drewN nq)
        have HF1 := Lib.hid (HF0.out.drewN nq)
        have d3 : (w0.drewN nq).cell? ⟨pr, 3, none⟩ = some (.slice (some ⟨g3, 0, none⟩) (r.length + 1) cap3) := c3'
        clear c3' c4' hc3' HR0 HF0
        generalize w0.drewN nq = w1 at *
        have f3 := HR1.out.hd.frozen 3
        go_wp2
        have e3 : (w1.alloc (.cells #[] 3)).cell? ⟨pr, 3, none⟩ = some (.slice (some ⟨g3, 0, none⟩) (r.length + 1) cap3) := ((Fr.refl [] w1).alloc _).cell d3 (by simp)
        go_region_law (first | (refine step_app_mt (by rfl) _ _ _ (by rfl) 3 (.int .i64 0) 1 8 Tryz.underlying56 Tryz.info3 rfl (by decide) w1.heap.size (by rfl) ((Blk.new w1 [] 3).drew) (.slice (some ⟨g3, 0, none⟩) r.length cap3) r.length (encN r.reverse) (by rfl) (ownsRow_same Hpre.out (fun q hq => ((HF1.out.alloc _).drew).keep q (Hpre.out.lt q hq).2 (by simp))) (by simp [encN, Value.oneCell']) (by unfold maxLen; omega) (by omega) ?_; intro v5 w5 hown5 hF5 hq5; obtain ⟨a5, cp5, rfl⟩ := ownsRow_slice hown5; have hd5 := hF5.blk ((HR1.out.hd.alloc (.cells #[] 3)).drew) (by have := HR1.out.hd.lt; simp; omega); have y5 := hd5.cell 3; have z5 := hd5.frozen 3; simp only [List.getElem?_cons_zero, List.getElem?_cons_succ] at y5))
        all_goals
          have hs5 := hF5.size
          have hq5' : ∀ q, (Value.slice a5 r.length cp5).ownBlock = some q → w1.heap.size ≤ q := fun q hq => by have := hq5 q hq; simp at this; omega
          have hF5' : Fr [w1.heap.size] w1 w5 := (((Fr.refl _ w1).alloc _).drew).trans' hF5
          have hR5 := HR1.out.fr hF5' (fun q hq hm => by have := HR1.out.lt q hq; simp at hm; omega)
          have HR5 := Lib.hid (hR5.setF (F := r) hown5 (fun e => by have := hq5' _ e; have := HR1.out.hd.lt; omega) (fun q hq e => by have := hq5' _ e; have := (HR1.out.items.lt q hq).2; omega))
          have HF5 := Lib.hid ((hF5'.mono (S' := rTB pr (.slice a2 M.L.length cap2) (.slice (some ⟨g3, 0, none⟩) M.free.length cap3)) (fun q hq => .inr (by simp at hq; omega))).setCell ⟨pr, 3, none⟩ (.slice a5 r.length cp5) (.inl (by simp [rTB])))
          have Hq5 := Lib.hid hq5'
          clear hown5 hF5 hq5 hF5' hR5 hd5 y5 z5 hq5' d3 e3 f3
          simp only [World.size_alloc, World.size_drew] at hs5
          generalize hw6 : w5.setCell ⟨pr, 3, none⟩ (.slice a5 r.length cp5) = w6 at *
          have hs6 : w1.heap.size ≤ w6.heap.size := HF5.out.size
          clear hw6
          have c2 := HR5.out.hd.cell 2
          have f2 := HR5.out.hd.frozen 2
          simp only [List.getElem?_cons_zero, List.getElem?_cons_succ] at c2
          go_wp2_with (at_builtin; refine wpList_appK rfl _ _ 113 rfl 126 itemZ 2 16 Tryz.underlying113 Tryz.infoItem rfl (by decide) (.slice a2 M.L.length cap2) M.L.length _ rfl (HR5.out.items.alloc _) w6.heap.size 126 [.int .u64 id, .int .i64 x] rfl (Blk.new' _ _ _ (by simp)) rfl (by simp [Value.oneCell']) (by omega) (by decide) ?_; intro g' cap' w4 hown4 hgrow4 hg4; obtain ⟨hR4, hF4, hq4⟩ := RTab.addL HR5.out _ hown4 hgrow4 hg4; have hk4 := (((Fr.refl _ _).alloc _).grown (S := (Value.slice a2 M.L.length cap2).ownBlock.toList) hgrow4 (fun q e => .inl (by simp [e]))).blk HR5.out.hd (fun hm => HR5.out.apL (by simpa using hm)); have z4 := hk4.frozen 2; have y4 := hk4.cell 2; simp only [List.getElem?_cons_zero, List.getElem?_cons_succ] at y4)
          go_ret3
          rw [Hp.out]
          have hF1s := HF1.out.size
          refine ⟨rfl, _, _, hR4, ((HF1.out.mono (by simp)).trans' HF5.out).trans hF4 (fun q hq => ?_), fun q hq => ?_⟩
          · simp only [rTB, List.mem_cons, List.mem_append, Option.mem_toList] at hq ⊢
            rcases hq with hq | hq | hq
            · exact .inl (.inl hq)
            · exact .inl (.inr (.inl hq))
            · have := Hq5.out q hq; exact .inr (by omega)
          · rcases hq4 q hq with hq | hq
            · simp only [rTB, List.mem_cons, List.mem_append, Option.mem_toList] at hq ⊢
              rcases hq with hq | hq | hq
              · exact .inl (.inl hq)
              · exact .inl (.inr (.inl hq))
              · have := Hq5.out q hq; exact .inr (by omega)
            · exact .inr (by omega)
  · have hf := Md.mem_find Hids.out (show (id, M.L[k].2) ∈ M.L by rw [← he]; exact List.getElem_mem hk)
    have hp : P = ⟨M.L[k].2, false, 0, M⟩ := by rw [← HP.out]; unfold Md.put; rw [hf]
    have Hp := Lib.hid hp; clear hp hf he
    obtain ⟨b, cap, e, hb, q0, q1⟩ := item_at HR.out.items hk
    simp only [Value.slice.injEq, true_and] at e
    obtain ⟨rfl, rfl⟩ := e
    have hj1 : (k : Int) < M.L.length := by omega
    have hj0 : (0 : Int) ≤ k := by omega
    have t2 : decide ((k : Int) ≥ 0) = true := decide_eq_true hj0
    clear q0
    generalize M.L[k].2 = x at *
    go_wp2
    go_ret3
    rw [Hp.out]
    exact ⟨rfl, _, _, HR.out, Fr.refl _ _, fun q hq => .inl hq⟩
end
end Go.Proofs.YtbegdgnhpklceaaGreat
