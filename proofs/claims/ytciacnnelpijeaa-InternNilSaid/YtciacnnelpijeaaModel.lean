/- A plain model of an intern table: the ids with their indexes, in the order in which they came; the free indexes, the last one first; how many indexes were given out. -/
import Derived.Test.YtciacnnelpijeaaArena
namespace Go.Proofs.Ytciacnnelpijeaa

structure Md where
  slots : Nat
  L : List (Nat × Nat)
  free : List Nat
  given : Nat

namespace Md
def new (slots : Nat) : Md := { slots := slots, L := [], free := [], given := 0 }
def find (M : Md) (id : Nat) : Option Nat := (M.L.find? (fun x => x.1 == id)).map (·.2)
def idOf (M : Md) (i : Nat) : Option Nat := (M.L.find? (fun x => x.2 == i)).map (·.1)
def next (M : Md) : Option Nat := match M.free with
  | k :: _ => some k
  | [] => if M.given < M.slots then some M.given else none
def add (M : Md) (id i : Nat) : Md := { M with L := M.L ++ [(id, i)], free := M.free.tail, given := match M.free with | [] => M.given + 1 | _ => M.given }
def rem (M : Md) (id i : Nat) : Md := { M with L := M.L.filter (fun x => x.1 != id), free := i :: M.free }

structure PutR where
  idx : Nat
  added : Bool
  err : Nat
  M : Md
def put (M : Md) (id : Nat) : PutR := match M.find id with
  | some i => ⟨i, false, 0, M⟩
  | none => match M.next with
    | none => ⟨0, false, 4, M⟩
    | some i => ⟨i, true, 0, M.add id i⟩
structure DelR where
  err : Nat
  M : Md
def del (M : Md) (id : Nat) : DelR := match M.find id with
  | none => ⟨5, M⟩
  | some i => ⟨0, M.rem id i⟩

def ar (M : Md) : Ar := { slots := M.slots, begun := M.given, free := M.free }

structure Ok (M : Md) : Prop where
  ar : M.ar.ok
  ids : (M.L.map (·.1)).Nodup
  idx : (M.L.map (·.2)).Nodup
  used : ∀ x ∈ M.L, M.ar.isUsed x.2
  all : ∀ i, M.ar.isUsed i → ∃ id, (id, i) ∈ M.L
  cnt : M.L.length + M.free.length = M.given
  u64 : ∀ x ∈ M.L, x.1 < 18446744073709551616

theorem mem_find {M : Md} (h : (M.L.map (·.1)).Nodup) {id i : Nat} (hm : (id, i) ∈ M.L) : M.find id = some i := by
  unfold find
  generalize M.L = l at *
  induction l with
  | nil => cases hm
  | cons a r ih =>
    simp only [List.map_cons, List.nodup_cons] at h
    by_cases e : a.1 = id
    · rcases List.mem_cons.1 hm with rfl | hm
      · simp
      · exact absurd (List.mem_map.2 ⟨_, hm, e.symm⟩) h.1
    · rcases List.mem_cons.1 hm with rfl | hm
      · exact absurd rfl e
      · rw [List.find?_cons_of_neg (by simpa using e)]; exact ih h.2 hm
theorem find_mem {M : Md} {id i : Nat} (hf : M.find id = some i) : (id, i) ∈ M.L := by
  unfold find at hf
  simp only [Option.map_eq_some_iff] at hf
  obtain ⟨x, hx, rfl⟩ := hf
  have h1 := List.find?_some hx
  have h2 := List.mem_of_find?_eq_some hx
  simp at h1
  subst h1
  exact h2
theorem find_iff {M : Md} (h : M.Ok) {id i : Nat} : M.find id = some i ↔ (id, i) ∈ M.L := ⟨find_mem, mem_find h.ids⟩
theorem find_none {M : Md} {id : Nat} : M.find id = none ↔ ∀ i, (id, i) ∉ M.L := by
  unfold find
  simp only [Option.map_eq_none_iff, List.find?_eq_none, beq_iff_eq]
  constructor
  · intro h i hm; exact h _ hm rfl
  · rintro h ⟨a, b⟩ hm e; subst e; exact h b hm
theorem mem_idOf {M : Md} (h : (M.L.map (·.2)).Nodup) {id i : Nat} (hm : (id, i) ∈ M.L) : M.idOf i = some id := by
  unfold idOf
  generalize M.L = l at *
  induction l with
  | nil => cases hm
  | cons a r ih =>
    simp only [List.map_cons, List.nodup_cons] at h
    by_cases e : a.2 = i
    · rcases List.mem_cons.1 hm with rfl | hm
      · simp
      · exact absurd (List.mem_map.2 ⟨_, hm, e.symm⟩) h.1
    · rcases List.mem_cons.1 hm with rfl | hm
      · exact absurd rfl e
      · rw [List.find?_cons_of_neg (by simpa using e)]; exact ih h.2 hm
theorem idOf_mem {M : Md} {id i : Nat} (hf : M.idOf i = some id) : (id, i) ∈ M.L := by
  unfold idOf at hf
  simp only [Option.map_eq_some_iff] at hf
  obtain ⟨x, hx, rfl⟩ := hf
  have h1 := List.find?_some hx
  have h2 := List.mem_of_find?_eq_some hx
  simp at h1
  subst h1
  exact h2
theorem idOf_none {M : Md} {i : Nat} : M.idOf i = none ↔ ∀ id, (id, i) ∉ M.L := by
  unfold idOf
  simp only [Option.map_eq_none_iff, List.find?_eq_none, beq_iff_eq]
  constructor
  · intro h i hm; exact h _ hm rfl
  · rintro h ⟨a, b⟩ hm e; subst e; exact h a hm

theorem ok_new {slots : Nat} (h : slots ≤ 65536) : (new slots).Ok :=
  ⟨⟨h, by simp [new, ar], by simp [new, ar], by simp [new, ar]⟩, by simp [new], by simp [new], by simp [new], fun i hi => absurd hi.1 (Nat.not_lt_zero _), rfl, by simp [new]⟩

theorem ar_next (M : Md) : M.ar.next = M.next := by
  unfold ar next Ar.next; cases M.free <;> rfl
theorem ar_add {M : Md} {id i : Nat} (h : M.next = some i) : (M.add id i).ar = M.ar.alloc := by
  obtain ⟨s, L, f, g⟩ := M
  cases f <;> rfl
theorem ar_rem (M : Md) (id i : Nat) : (M.rem id i).ar = M.ar.put i := rfl

theorem alloc_ok {A : Ar} {i : Nat} (h : A.ok) (hn : A.next = some i) : A.alloc.ok := by
  obtain ⟨s, b, f⟩ := A
  cases f with
  | cons k r =>
    refine ⟨h.hs, h.hb, (List.nodup_cons.1 h.nd).2, fun x hx => h.lt x (List.mem_cons_of_mem _ hx)⟩
  | nil =>
    simp only [Ar.next] at hn
    by_cases hb : b < s
    · exact ⟨h.hs, by simp [Ar.alloc]; omega, by simp [Ar.alloc], by simp [Ar.alloc]⟩
    · rw [if_neg hb] at hn; cases hn
theorem isUsed_alloc' {A : Ar} {i : Nat} (hok : A.ok) (hn : A.next = some i) : (¬ A.isUsed i) ∧ ∀ j, A.alloc.isUsed j ↔ (A.isUsed j ∨ j = i) := by
  obtain ⟨slots, begun, free⟩ := A
  cases free with
  | cons k r =>
    obtain rfl : k = i := by simpa [Ar.next] using hn
    have hnd := hok.nd
    have hlt := hok.lt k (by simp)
    simp only [List.nodup_cons] at hnd
    dsimp only at hlt
    refine ⟨by simp [Ar.isUsed], fun j => ?_⟩
    simp only [Ar.isUsed, Ar.alloc, List.mem_cons, not_or]
    constructor
    · rintro ⟨a, b⟩
      by_cases e : j = k
      · exact .inr e
      · exact .inl ⟨a, e, b⟩
    · rintro (⟨a, _, b⟩ | rfl)
      · exact ⟨a, b⟩
      · exact ⟨hlt, hnd.1⟩
  | nil =>
    simp only [Ar.next] at hn
    by_cases hb : begun < slots
    · rw [if_pos hb] at hn
      obtain rfl : begun = i := by simpa using hn
      refine ⟨by simp [Ar.isUsed], fun j => ?_⟩
      simp only [Ar.isUsed, Ar.alloc, List.not_mem_nil, not_false_eq_true, and_true]
      omega
    · rw [if_neg hb] at hn; cases hn

theorem ok_add {M : Md} (h : M.Ok) {id i : Nat} (hid : id < 18446744073709551616) (hf : M.find id = none) (hn : M.next = some i) : (M.add id i).Ok := by
  have hn' : M.ar.next = some i := by rw [ar_next]; exact hn
  obtain ⟨hnu, hiff⟩ := isUsed_alloc' h.ar hn'
  have hno := find_none.1 hf
  refine ⟨by rw [ar_add hn]; exact alloc_ok h.ar hn', ?_, ?_, ?_, ?_, ?_, ?_⟩
  · simp only [add, List.map_append, List.map_cons, List.map_nil, List.nodup_append]
    refine ⟨h.ids, by simp, ?_⟩
    intro a ha b hb e
    simp only [List.mem_singleton] at hb
    obtain ⟨x, hx, rfl⟩ := List.mem_map.1 ha
    exact hno x.2 (by rw [← hb, ← e]; exact hx)
  · simp only [add, List.map_append, List.map_cons, List.map_nil, List.nodup_append]
    refine ⟨h.idx, by simp, ?_⟩
    intro a ha b hb e
    simp only [List.mem_singleton] at hb
    obtain ⟨x, hx, rfl⟩ := List.mem_map.1 ha
    have := h.used x hx
    rw [e, hb] at this
    exact hnu this
  · intro x hx
    rw [ar_add hn, hiff]
    simp only [add, List.mem_append, List.mem_singleton] at hx
    rcases hx with hx | rfl
    · exact .inl (h.used x hx)
    · exact .inr rfl
  · intro j hj
    rw [ar_add hn, hiff] at hj
    rcases hj with hj | rfl
    · obtain ⟨id', hm⟩ := h.all j hj
      exact ⟨id', by simp [add, hm]⟩
    · exact ⟨id, by simp [add]⟩
  · have := h.cnt
    obtain ⟨s, L, f, g⟩ := M
    cases f with
    | nil => simp [add] at *; omega
    | cons k r => simp [add] at *; omega
  · intro x hx
    simp only [add, List.mem_append, List.mem_singleton] at hx
    rcases hx with hx | rfl
    · exact h.u64 x hx
    · exact hid

theorem filter_ne {l : List (Nat × Nat)} {id i : Nat} (hnd : (l.map (·.1)).Nodup) (hm : (id, i) ∈ l) : (l.filter (fun x => x.1 != id)).length + 1 = l.length := by
  induction l with
  | nil => cases hm
  | cons a r ih =>
    simp only [List.map_cons, List.nodup_cons] at hnd
    by_cases e : a.1 = id
    · have hr : r.filter (fun x => x.1 != id) = r := List.filter_eq_self.2 (fun x hx => by
        simp only [bne_iff_ne]; intro e2; exact hnd.1 (List.mem_map.2 ⟨x, hx, e2.trans e.symm⟩))
      rw [List.filter_cons_of_neg (by simp [e]), hr]; simp
    · rcases List.mem_cons.1 hm with rfl | hm
      · exact absurd rfl e
      · rw [List.filter_cons_of_pos (by simpa using e), List.length_cons, List.length_cons, ih hnd.2 hm]

theorem isUsed_put' {A : Ar} {k : Nat} (_hu : A.isUsed k) (j : Nat) : (A.put k).isUsed j ↔ (A.isUsed j ∧ j ≠ k) := by
  simp only [Ar.isUsed, Ar.put, List.mem_cons, not_or]
  constructor
  · rintro ⟨a, b, c⟩; exact ⟨⟨a, c⟩, b⟩
  · rintro ⟨⟨a, c⟩, b⟩; exact ⟨a, b, c⟩

theorem ok_rem {M : Md} (h : M.Ok) {id i : Nat} (hm : (id, i) ∈ M.L) : (M.rem id i).Ok := by
  have hu := h.used _ hm
  have hiff := isUsed_put' hu
  have hne : ∀ x ∈ M.L, x.1 ≠ id → x.2 ≠ i := by
    intro x hx hn e
    have h1 := mem_idOf h.idx (show (x.1, x.2) ∈ M.L from hx)
    have h2 := mem_idOf h.idx hm
    rw [e, h2] at h1
    exact hn (by simpa using h1.symm)
  refine ⟨?_, ?_, ?_, ?_, ?_, ?_, ?_⟩
  · rw [ar_rem]
    refine ⟨h.ar.hs, h.ar.hb, ?_, ?_⟩
    · simp only [Ar.put, List.nodup_cons]; exact ⟨hu.2, h.ar.nd⟩
    · intro x hx; simp only [Ar.put, List.mem_cons] at hx
      rcases hx with rfl | hx
      · exact hu.1
      · exact h.ar.lt x hx
  · exact (List.Sublist.map _ List.filter_sublist).nodup h.ids
  · exact (List.Sublist.map _ List.filter_sublist).nodup h.idx
  · intro x hx
    simp only [rem, List.mem_filter, bne_iff_ne] at hx
    rw [ar_rem, hiff]
    exact ⟨h.used x hx.1, hne x hx.1 hx.2⟩
  · intro j hj
    rw [ar_rem, hiff] at hj
    obtain ⟨id', hm'⟩ := h.all j hj.1
    refine ⟨id', ?_⟩
    simp only [rem, List.mem_filter, bne_iff_ne]
    refine ⟨hm', fun e => ?_⟩
    subst e
    have h1 := mem_find h.ids hm
    rw [mem_find h.ids hm'] at h1
    exact hj.2 (by simpa using h1)
  · have := h.cnt
    have h2 := filter_ne h.ids hm
    simp only [rem, List.length_cons]
    omega
  · intro x hx
    simp only [rem, List.mem_filter] at hx
    exact h.u64 x hx.1

theorem ok_put {M : Md} (h : M.Ok) {id : Nat} (hid : id < 18446744073709551616) : (M.put id).M.Ok := by
  unfold put
  cases hf : M.find id with
  | some i => exact h
  | none =>
    cases hn : M.next with
    | none => exact h
    | some i => exact ok_add h hid hf hn
theorem ok_del {M : Md} (h : M.Ok) (id : Nat) : (M.del id).M.Ok := by
  unfold del
  cases hf : M.find id with
  | none => exact h
  | some i => exact ok_rem h (find_mem hf)
end Md
end Go.Proofs.Ytciacnnelpijeaa
