/- slices.Sort at uint64: partitionEqualOrdered. -/
import Derived.Test.YtgmnemndjjmgkaaGreatB2
import Derived.Maps.OwnOps
import Derived.Maps.OwnSet
import Derived.Test.YtgmnemndjjmgkaaGreatB1
import Derived.Deep.WholeRow
import Derived.StillTailTactics
import Derived.Sort.WalkA
import Derived.Sort.Walk13a
import Derived.CellFam
import Derived.BigGuard
import Derived.BigCall
import Derived.Deep.Draws
import Derived.Sort.WalkB3
import Derived.Sort.WalkB12
import Derived.Sort.WalkD1
import Derived.Sort.LotD4
import Derived.Shelf.Lay
import Derived.Shelf.Small.Bits
import Derived.Ground.Names2Prog
import Derived.Sort.Walk7
import Derived.Sort.WalkC
set_option linter.unusedSimpArgs false
set_option linter.unusedVariables false
/- A plain model of a store: its limits, the last sequence number, the slots, the vertices, the live edges by their sequence numbers. -/
namespace Go.Proofs.YtgmnemndjjmgkaaGreat
set_option maxRecDepth 10000
structure Lv where
  slot : Nat
  seq : Nat
  u : Nat
  v : Nat
  wt : Int
  t : Int
  x : Int
deriving DecidableEq
def Lv.z : Lv := ⟨0, 0, 0, 0, 0, 0, 0⟩
def Lv.at (e : Lv) (id : Nat) : Bool := e.u == id || e.v == id
def incL (L : List Lv) (id : Nat) : List Nat := (L.filter fun e => e.at id).map (·.slot)
def liveAt (L : List Lv) (i : Nat) : Lv := (L.find? fun e => e.slot == i).getD Lv.z
structure Sm where
  V : Nat
  E : Nat
  last : Nat
  A : Ar
  M : Md
  L : List Lv
namespace Sm
structure Ok (s : Sm) : Prop where
  ar : s.A.ok
  sl : s.A.slots = s.E
  md : s.M.Ok
  ms : s.M.slots = s.V
  used : ∀ i, s.A.isUsed i ↔ ∃ e ∈ s.L, e.slot = i
  one : (s.L.map (·.slot)).Nodup
  seq : s.L.Pairwise fun a b => a.seq < b.seq
  last : ∀ e ∈ s.L, e.seq ≤ s.last
  vert : ∀ id, (s.M.find id).isSome = true ↔ incL s.L id ≠ []
  ne : ∀ e ∈ s.L, e.u ≠ e.v
  u64 : ∀ e ∈ s.L, e.u < 18446744073709551616 ∧ e.v < 18446744073709551616
  leV : s.V ≤ 4096
  leE : s.E ≤ 16384
  lt : s.last < 18446744073709551616
def new (V E last : Nat) : Sm := { V := V, E := E, last := last, A := Ar.new E, M := Md.new V, L := [] }
def more (s : Sm) (u v : Nat) : Nat := (if (s.M.find u).isSome = true then 0 else 1) + if (s.M.find v).isSome = true then 0 else 1
def chk (s : Sm) (u v : Nat) : Nat := if u = v then 9 else if s.E ≤ s.A.used then 12 else if s.V < s.M.L.length + s.more u v then 11 else 0
def slot (s : Sm) : Nat := s.A.next.getD 0
def edge (s : Sm) (u v : Nat) (wt t x : Int) : Lv := ⟨s.slot, s.last + 1, u, v, wt, t, x⟩
def ins (s : Sm) (u v : Nat) (wt t x : Int) : Sm := { s with last := s.last + 1, A := s.A.alloc, M := ((s.M.put u).M.put v).M, L := s.L ++ [s.edge u v wt t x] }
def delIf (M : Md) (L : List Lv) (id : Nat) : Md := if incL L id = [] then (M.del id).M else M
def rem (s : Sm) (i : Nat) : Sm :=
  { s with A := s.A.put i, L := s.L.filter (fun e => e.slot != i), M := delIf (delIf s.M (s.L.filter fun e => e.slot != i) (liveAt s.L i).u) (s.L.filter fun e => e.slot != i) (liveAt s.L i).v }
end Sm
theorem incL_snoc (L : List Lv) (e : Lv) (id : Nat) : incL (L ++ [e]) id = incL L id ++ if e.at id then [e.slot] else [] := by
 unfold incL
 rw [List.filter_append, List.map_append]
 congr 1
 by_cases h : e.at id = true <;> simp [h]
theorem mem_incL {L : List Lv} {id i : Nat} : i ∈ incL L id ↔ ∃ e ∈ L, e.at id = true ∧ e.slot = i := by
 unfold incL
 simp [List.mem_map, List.mem_filter, and_assoc]
theorem incL_nodup {L : List Lv} (h : (L.map (·.slot)).Nodup) (id : Nat) : (incL L id).Nodup := (List.Sublist.map _ List.filter_sublist).nodup h
theorem incL_filter (L : List Lv) (id i : Nat) : incL (L.filter fun e => e.slot != i) id = (incL L id).filter (· != i) := by
 unfold incL
 rw [List.filter_map, List.filter_filter, List.filter_filter]
 congr 1
 exact List.filter_congr fun e _ => by simp [Bool.and_comm]
theorem incL_len (L : List Lv) (id : Nat) : (incL L id).length ≤ L.length := by
 unfold incL; rw [List.length_map]; exact List.length_filter_le _ _
theorem liveAt_mem {L : List Lv} (h : (L.map (·.slot)).Nodup) {e : Lv} (he : e ∈ L) : liveAt L e.slot = e := by
 unfold liveAt
 induction L with
 | nil => cases he
 | cons a r ih => {
 simp only [List.map_cons, List.nodup_cons] at h
 by_cases e0 : a.slot = e.slot
 {
 rcases List.mem_cons.1 he with rfl | he
 · simp
 · exact absurd (List.mem_map.2 ⟨_, he, e0.symm⟩) h.1
 }
 {
 rcases List.mem_cons.1 he with rfl | he
 · exact absurd rfl e0
 · rw [List.find?_cons_of_neg (by simpa using e0)]; exact ih h.2 he
 }
 }
theorem liveAt_none {L : List Lv} {i : Nat} (h : ∀ e ∈ L, e.slot ≠ i) : liveAt L i = Lv.z := by
 unfold liveAt
 rw [List.find?_eq_none.2 (fun e he => by simpa using h e he)]; rfl
theorem liveAt_snoc {L : List Lv} {e : Lv} (h : ∀ x ∈ L, x.slot ≠ e.slot) (i : Nat) : liveAt (L ++ [e]) i = if i = e.slot then e else liveAt L i := by
 unfold liveAt
 by_cases hi : i = e.slot
 {
 subst hi
 rw [if_pos rfl, List.find?_append, List.find?_eq_none.2 (fun x hx => by simpa using h x hx)]
 simp
 }
 {
 rw [if_neg hi, List.find?_append]
 have hn : (e.slot == i) = false := by simp; omega
 simp [hn]
 }
theorem liveAt_filter {L : List Lv} (i j : Nat) : liveAt (L.filter fun e => e.slot != i) j = if j = i then Lv.z else liveAt L j := by
 by_cases hj : j = i
 {
 subst hj
 rw [if_pos rfl]
 exact liveAt_none fun e he => by simpa using (List.mem_filter.1 he).2
 }
 {
 rw [if_neg hj]
 unfold liveAt
 rw [List.find?_filter]
 congr 1
 congr 1
 funext e
 by_cases he : e.slot = j
 · subst he; simp [hj]
 · simp [he]
 }
theorem ar_next_some {A : Ar} (h : A.used < A.slots) : ∃ i, A.next = some i := by
 obtain ⟨s, b, f⟩ := A
 cases f with
 | nil => {
 have hb : b < s := by simpa [Ar.used] using h
 exact ⟨b, if_pos hb⟩
 }
 | cons k r => exact ⟨k, rfl⟩
theorem ar_next_lt {A : Ar} (hok : A.ok) {i : Nat} (h : A.next = some i) : i < A.slots := by
 obtain ⟨s, b, f⟩ := A
 cases f with
 | nil => {
 simp only [Ar.next] at h
 split at h
 · cases h; assumption
 · cases h
 }
 | cons k r => {
 cases h
 exact Nat.lt_of_lt_of_le (hok.lt _ (List.mem_cons_self ..)) hok.hb
 }
theorem ar_put_ok {A : Ar} (h : A.ok) {k : Nat} (hu : A.isUsed k) : (A.put k).ok := by
 refine ⟨h.hs, h.hb, ?_, ?_⟩
 · simp only [Ar.put, List.nodup_cons]; exact ⟨hu.2, h.nd⟩
 {
 intro x hx; simp only [Ar.put, List.mem_cons] at hx
 rcases hx with rfl | hx
 · exact hu.1
 · exact h.lt x hx
 }
theorem ar_alloc_slots (A : Ar) : A.alloc.slots = A.slots := by
 obtain ⟨s, b, f⟩ := A; cases f <;> rfl
theorem md_slots_put (M : Md) (id : Nat) : (M.put id).M.slots = M.slots := by
 unfold Md.put
 cases M.find id with
 | some i => rfl
 | none => cases M.next <;> rfl
theorem md_slots_del (M : Md) (id : Nat) : (M.del id).M.slots = M.slots := by
 unfold Md.del
 cases M.find id <;> rfl
theorem md_next {M : Md} (h : M.Ok) (hl : M.L.length < M.slots) : ∃ i, M.next = some i := by
 have hc := h.cnt
 obtain ⟨s, L, f, g⟩ := M
 cases f with
 | nil => {
 have hb : g < s := by simp at hc hl; omega
 exact ⟨g, if_pos hb⟩
 }
 | cons k r => exact ⟨k, rfl⟩
def Fits (M : Md) (id : Nat) : Prop := (M.find id).isSome = true ∨ M.L.length < M.slots
theorem find_add {M : Md} (h : M.Ok) {id i : Nat} (hid : id < 18446744073709551616) (hf : M.find id = none) (hn : M.next = some i) (x : Nat) : (M.add id i).find x = if x = id then some i else M.find x := by
 have hok := Md.ok_add h hid hf hn
 by_cases hx : x = id
 {
 subst hx
 rw [if_pos rfl]
 exact (Md.find_iff hok).2 (by simp [Md.add])
 }
 {
 rw [if_neg hx]
 cases hy : M.find x with
 | some j => exact (Md.find_iff hok).2 (by have := Md.find_mem hy; simp [Md.add, this])
 | none => {
 refine Md.find_none.2 fun j hm => ?_
 simp only [Md.add, List.mem_append, List.mem_singleton, Prod.mk.injEq] at hm
 rcases hm with hm | ⟨e, _⟩
 · exact Md.find_none.1 hy j hm
 · exact hx e
 }
 }
theorem put_fits {M : Md} (h : M.Ok) {id : Nat} (hid : id < 18446744073709551616) (hf : Fits M id) :
    (M.put id).err = 0 ∧ (∀ x, ((M.put id).M.find x).isSome = true ↔ ((M.find x).isSome = true ∨ x = id)) ∧ (M.put id).M.L.length = M.L.length + (if (M.find id).isSome = true then 0 else 1) ∧ (M.put id).M.find id = some (M.put id).idx := by
 unfold Md.put
 cases hi : M.find id with
 | some i => {
 refine ⟨rfl, fun x => ⟨.inl, fun hx => hx.elim (fun h => h) fun e => ?_⟩, by simp, hi⟩
 subst e; rw [hi]; rfl
 }
 | none => {
 have hl : M.L.length < M.slots := hf.resolve_left (by rw [hi]; simp)
 obtain ⟨i, hn⟩ := md_next h hl
 simp only [hn]
 refine ⟨trivial, fun x => ?_, by simp [Md.add], by rw [find_add h hid hi hn, if_pos rfl]⟩
 rw [find_add h hid hi hn]
 by_cases hx : x = id
 · simp [hx]
 · simp [hx]
 }
theorem find_del {M : Md} (h : M.Ok) (id x : Nat) : ((M.del id).M.find x).isSome = true ↔ ((M.find x).isSome = true ∧ x ≠ id) := by
 unfold Md.del
 cases hi : M.find id with
 | none => {
 refine ⟨fun hx => ⟨hx, fun e => ?_⟩, fun hx => hx.1⟩
 subst e; rw [hi] at hx; cases hx
 }
 | some i => {
 have hok := Md.ok_rem h (Md.find_mem hi)
 simp only [Option.isSome_iff_exists]
 constructor
 {
 rintro ⟨j, hj⟩
 have hm := Md.find_mem hj
 simp only [Md.rem, List.mem_filter, bne_iff_ne] at hm
 exact ⟨⟨j, (Md.find_iff h).2 hm.1⟩, hm.2⟩
 }
 {
 rintro ⟨⟨j, hj⟩, hne⟩
 refine ⟨j, (Md.find_iff hok).2 ?_⟩
 simp only [Md.rem, List.mem_filter, bne_iff_ne]
 exact ⟨Md.find_mem hj, hne⟩
 }
 }
namespace Sm
section
variable {s : Sm}
theorem ok_new {V E last : Nat} (hV : V ≤ 4096) (hE : E ≤ 16384) (hl : last < 18446744073709551616) : (new V E last).Ok := by
 refine ⟨⟨by simp [new, Ar.new]; omega, by simp [new, Ar.new], by simp [new, Ar.new], by simp [new, Ar.new]⟩, rfl, Md.ok_new (by omega), rfl, fun i => ?_, by simp [new], by simp [new], by simp [new], fun id => ?_, by simp [new], by simp [new], hV, hE, hl⟩
 · simp [new, Ar.new, Ar.isUsed]
 · simp [new, Md.new, Md.find, incL]
theorem len_used (h : s.Ok) : s.A.used = s.L.length := by
 rw [← usedL_len h.ar]
 have := ((List.perm_ext_iff_of_nodup (nodup_usedL s.A) h.one).2 fun i => by rw [mem_usedL, h.used]; simp).length_eq
 rw [List.length_map] at this
 exact this
theorem chk_ok (_h : s.Ok) {u v : Nat} (hc : s.chk u v = 0) : u ≠ v ∧ s.A.used < s.E ∧ s.M.L.length + s.more u v ≤ s.V := by
 unfold chk at hc
 split at hc
 · cases hc
 {
 split at hc
 · cases hc
 {
 split at hc
 · cases hc
 · exact ⟨by assumption, by omega, by omega⟩
 }
 }
theorem slot_next (h : s.Ok) {u v : Nat} (hc : s.chk u v = 0) : s.A.next = some s.slot := by
 obtain ⟨i, hi⟩ := ar_next_some (A := s.A) (by rw [h.sl]; exact (chk_ok h hc).2.1)
 unfold slot; rw [hi]; rfl
theorem fits_uv (h : s.Ok) {u v : Nat} (hu : u < 18446744073709551616) (hc : s.chk u v = 0) : Fits s.M u ∧ Fits (s.M.put u).M v := by
 obtain ⟨hne, _, hle⟩ := chk_ok h hc
 unfold more at hle
 have hs := h.ms
 have h1 : Fits s.M u := by {
 unfold Fits
 by_cases hf : (s.M.find u).isSome = true
 · exact .inl hf
 · rw [if_neg hf] at hle; exact .inr (by omega)
 }
 obtain ⟨_, p2, p3, _⟩ := put_fits h.md hu h1
 refine ⟨h1, ?_⟩
 unfold Fits
 rw [p2, p3, md_slots_put]
 by_cases hf : (s.M.find v).isSome = true
 · exact .inl (.inl hf)
 {
 rw [if_neg hf] at hle
 refine .inr ?_
 omega
 }
theorem ok_ins (h : s.Ok) {u v : Nat} (hu : u < 18446744073709551616) (hv : v < 18446744073709551616) (hc : s.chk u v = 0) (hl : s.last + 1 < 18446744073709551616) (wt t x : Int) : (s.ins u v wt t x).Ok := by
 obtain ⟨hne, hlt, _⟩ := chk_ok h hc
 have hn := slot_next h hc
 obtain ⟨f1, f2⟩ := fits_uv h hu hc
 obtain ⟨hnu, hiff⟩ := Md.isUsed_alloc' h.ar hn
 have hnew : ∀ e ∈ s.L, e.slot ≠ s.slot := fun e he ee => hnu ((h.used _).2 ⟨e, he, ee⟩)
 obtain ⟨_, p2, _, _⟩ := put_fits h.md hu f1
 have hok1 := Md.ok_put h.md hu
 obtain ⟨_, q2, _, _⟩ := put_fits hok1 hv f2
 refine ⟨Md.alloc_ok h.ar hn, (ar_alloc_slots _).trans h.sl, Md.ok_put hok1 hv, (md_slots_put _ _).trans ((md_slots_put _ _).trans h.ms), fun i => ?_, ?_, ?_, ?_, fun id => ?_, ?_, ?_, h.leV, h.leE, hl⟩
 {
 simp only [ins]
 rw [hiff, h.used]
 simp only [List.mem_append, List.mem_singleton]
 constructor
 {
 rintro (⟨e, he, rfl⟩ | rfl)
 · exact ⟨e, .inl he, rfl⟩
 · exact ⟨_, .inr rfl, rfl⟩
 }
 {
 rintro ⟨e, he | rfl, rfl⟩
 · exact .inl ⟨e, he, rfl⟩
 · exact .inr rfl
 }
 }
 {
 simp only [ins, List.map_append, List.map_cons, List.map_nil, List.nodup_append]
 refine ⟨h.one, by simp, fun a ha b hb e => ?_⟩
 simp only [List.mem_singleton] at hb
 obtain ⟨x, hx, rfl⟩ := List.mem_map.1 ha
 exact hnew x hx (e.trans hb)
 }
 {
 simp only [ins]
 rw [List.pairwise_append]
 refine ⟨h.seq, by simp, fun a ha b hb => ?_⟩
 obtain rfl := List.mem_singleton.1 hb
 exact Nat.lt_succ_of_le (h.last a ha)
 }
 {
 intro e he
 simp only [ins, List.mem_append, List.mem_singleton] at he
 rcases he with he | rfl
 · exact Nat.le_succ_of_le (h.last e he)
 · exact Nat.le_refl _
 }
 {
 simp only [ins]
 rw [q2, p2, h.vert, incL_snoc]
 have hat : (s.edge u v wt t x).at id = true ↔ u = id ∨ v = id := by simp [Lv.at, edge]
 by_cases h1 : (s.edge u v wt t x).at id = true
 {
 rw [if_pos h1]
 refine ⟨fun _ => by simp, fun _ => ?_⟩
 rcases hat.1 h1 with e | e
 · exact .inl (.inr e.symm)
 · exact .inr e.symm
 }
 {
 rw [if_neg h1, List.append_nil]
 refine ⟨fun h2 => ?_, fun h2 => .inl (.inl h2)⟩
 rcases h2 with (h2 | h2) | h2
 · exact h2
 · exact absurd (hat.2 (.inl h2.symm)) h1
 · exact absurd (hat.2 (.inr h2.symm)) h1
 }
 }
 {
 intro e he
 simp only [ins, List.mem_append, List.mem_singleton] at he
 rcases he with he | rfl
 · exact h.ne e he
 · exact hne
 }
 {
 intro e he
 simp only [ins, List.mem_append, List.mem_singleton] at he
 rcases he with he | rfl
 · exact h.u64 e he
 · exact ⟨hu, hv⟩
 }
theorem live_used (h : s.Ok) {i : Nat} (hu : s.A.isUsed i) : liveAt s.L i ∈ s.L ∧ (liveAt s.L i).slot = i := by
 obtain ⟨e, he, rfl⟩ := (h.used i).1 hu
 rw [liveAt_mem h.one he]
 exact ⟨he, rfl⟩
theorem delIf_ok {M : Md} (h : M.Ok) (L : List Lv) (id : Nat) : (delIf M L id).Ok := by
 unfold delIf; split
 · exact Md.ok_del h id
 · exact h
theorem delIf_slots (M : Md) (L : List Lv) (id : Nat) : (delIf M L id).slots = M.slots := by
 unfold delIf; split
 · exact md_slots_del M id
 · rfl
theorem delIf_find {M : Md} (h : M.Ok) (L : List Lv) (id x : Nat) : ((delIf M L id).find x).isSome = true ↔ ((M.find x).isSome = true ∧ (x = id → incL L id ≠ [])) := by
 unfold delIf; split
 {
 rename_i hn
 rw [find_del h]
 refine and_congr_right fun _ => ⟨fun h1 h2 => absurd h2 h1, fun h1 h2 => h1 h2 hn⟩
 }
 {
 rename_i hn
 exact ⟨fun h1 => ⟨h1, fun _ => hn⟩, fun h1 => h1.1⟩
 }
theorem ok_rem (h : s.Ok) {i : Nat} (hu : s.A.isUsed i) : (s.rem i).Ok := by
 obtain ⟨hm, hs⟩ := live_used h hu
 have hiff := Md.isUsed_put' hu
 have ho1 := delIf_ok h.md (s.L.filter fun e => e.slot != i) (liveAt s.L i).u
 refine ⟨ar_put_ok h.ar hu, h.sl, delIf_ok ho1 _ _, ?_, fun j => ?_, (List.Sublist.map _ List.filter_sublist).nodup h.one, h.seq.sublist List.filter_sublist, fun e he => h.last e (List.mem_filter.1 he).1, fun id => ?_, fun e he => h.ne e (List.mem_filter.1 he).1, fun e he => h.u64 e (List.mem_filter.1 he).1, h.leV, h.leE, h.lt⟩
 · simp only [rem, delIf_slots]; exact h.ms
 {
 simp only [rem]
 rw [hiff, h.used]
 simp only [List.mem_filter, bne_iff_ne]
 constructor
 · rintro ⟨⟨e, he, rfl⟩, hj⟩; exact ⟨e, ⟨he, hj⟩, rfl⟩
 · rintro ⟨e, ⟨he, hj⟩, rfl⟩; exact ⟨⟨e, he, rfl⟩, hj⟩
 }
 {
 simp only [rem]
 rw [delIf_find ho1, delIf_find h.md, h.vert]
 constructor
 {
 rintro ⟨⟨h1, h2⟩, h3⟩
 by_cases e1 : id = (liveAt s.L i).u
 · rw [e1]; exact h2 e1
 {
 by_cases e2 : id = (liveAt s.L i).v
 · rw [e2]; exact h3 e2
 {
 intro e3
 apply h1
 refine List.eq_nil_iff_forall_not_mem.2 fun k hk => ?_
 rw [incL_filter] at e3
 have hki : k = i := by {
 apply Classical.byContradiction
 intro hne
 have : k ∈ (incL s.L id).filter (· != i) := List.mem_filter.2 ⟨hk, by simpa using hne⟩
 rw [e3] at this; cases this
 }
 subst hki
 obtain ⟨e, he, hat, hes⟩ := mem_incL.1 hk
 have : e = liveAt s.L k := by rw [← hes, liveAt_mem h.one he]
 subst this
 unfold Lv.at at hat
 simp only [Bool.or_eq_true, beq_iff_eq] at hat
 rcases hat with hat | hat
 · exact e1 hat.symm
 · exact e2 hat.symm
 }
 }
 }
 {
 intro h1
 refine ⟨⟨fun e => h1 ?_, fun e => e ▸ h1⟩, fun e => e ▸ h1⟩
 rw [incL_filter, e]; rfl
 }
 }
end
end Sm
end Go.Proofs.YtgmnemndjjmgkaaGreat
namespace Go.Proofs.YtgmnemndjjmgkaaGreat
open Go.RowKit Go.Maps
def tokR (ok : Value → Bool) (v : Value) : Option (DataW Value × List MemPlace) := if ok v then some (.held v, []) else none
theorem tokR_mk {ok : Value → Bool} {v : Value} (h : ok v = true) : tokR ok v = some (.held v, []) := by simp [tokR, h]
theorem tokR_inv {ok : Value → Bool} {v u : Value} {ps : List MemPlace} (h : tokR ok v = some (.held u, ps)) : v = u := by
 unfold tokR at h
 split at h
 · simp only [Option.some.injEq, Prod.mk.injEq, DataW.held.injEq] at h; exact h.1
 · cases h
theorem ownsMap_tight {H : Type} {w : World} {P : Program} {k : TypeId} {R : Value → Option (DataW H × List MemPlace)} {b n : Nat} {D : DataW H} (h : w.ownsMap P k R b n D) : w.ownsMap P k R b (Maps.size D) D := by
 obtain ⟨es, clock, hb, F, _, rfl⟩ := h
 exact ⟨es, clock, hb, F, by simp [Maps.size, length_sorted], rfl⟩
theorem ownsMap_same {H : Type} {w w' : World} {P : Program} {k : TypeId} {R : Value → Option (DataW H × List MemPlace)} {b n : Nat} {D : DataW H} (h : w.ownsMap P k R b n D) (e : w'.heap[b]? = w.heap[b]?) : w'.ownsMap P k R b n D := by
 obtain ⟨es, clock, hb, r⟩ := h
 exact ⟨es, clock, e.trans hb, r⟩
def updM (m : Int → Option Value) (a : Int) (v : Option Value) : Int → Option Value := fun x => if x = a then v else m x
theorem updM_same (m : Int → Option Value) (a : Int) (v : Option Value) : updM m a v a = v := by simp [updM]
theorem updM_other {m : Int → Option Value} {a x : Int} {v : Option Value} (h : x ≠ a) : updM m a v x = m x := by simp [updM, h]
def IMap (P : Program) (k : TypeId) (q : IntKind) (ok : Value → Bool) (w : World) (b : Nat) (m : Int → Option Value) (n : Nat) : Prop :=
  ∃ D : DataW Value, w.ownsMap P k (tokR ok) b n D ∧ Tidy D ∧ Maps.size D = n ∧
    ∀ a : Int, (Lit.int q a).wf = true → (Maps.has D (.int q a) = (m a).isSome ∧ ∀ v, m a = some v → ok v = true ∧ ∀ z, D.atKey (.int q a) z = .held v)
section
variable {P : Program} {k t e : TypeId} {q : IntKind} {ok : Value → Bool} {w w' : World} {b n : Nat} {m : Int → Option Value}
theorem IMap.same (h : IMap P k q ok w b m n) (he : w'.heap[b]? = w.heap[b]?) : IMap P k q ok w' b m n := by
 obtain ⟨D, h1, h2⟩ := h
 exact ⟨D, ownsMap_same h1 he, h2⟩
theorem IMap.lt (h : IMap P k q ok w b m n) : b < w.heap.size := by obtain ⟨D, h1, _⟩ := h; exact h1.lt
theorem IMap.made (w : World) (P : Program) (k : TypeId) (q : IntKind) (ok : Value → Bool) : IMap P k q ok (w.alloc (.map #[] 0)) w.heap.size (fun _ => none) 0 :=
  ⟨_, World.ownsMap_made w P k (tokR ok), tidy_empty, rfl, fun _ _ => ⟨rfl, fun _ h => by cases h⟩⟩
theorem IMap.run_get (h : IMap P k q ok w b m n) (hk : P.underlying k = some (.int q)) (ht : P.underlying t = some (.map k e)) {z : Value} (hz : (zeroValue e).run P w = .ok z w) (hzo : ok z = true) {a : Int} (ha : (Lit.int q a).wf = true) :
    (Instr.lookup t (.map (some b)) (.int q a) false).run P w = .ok ((m a).getD z) w := by
 obtain ⟨D, h1, h2, _, h3⟩ := h
 obtain ⟨v, ps, hr, hv⟩ := h1.lookup (int_keyed hk) ht hz (tokR_mk hzo) (keyOf_int_mk hk ha)
 rw [hr]
 cases hm : m a with
 | some u => {
 rw [((h3 a ha).2 u hm).2] at hv
 rw [tokR_inv hv]; rfl
 }
 | none => {
 have hn := (h3 a ha).1
 rw [hm] at hn
 rw [atKey_of_not_has hn] at hv
 rw [tokR_inv hv]; rfl
 }
theorem IMap.run_ok (h : IMap P k q ok w b m n) (hk : P.underlying k = some (.int q)) (ht : P.underlying t = some (.map k e)) {z : Value} (hz : (zeroValue e).run P w = .ok z w) (hzo : ok z = true) {a : Int} (ha : (Lit.int q a).wf = true) :
    (Instr.lookup t (.map (some b)) (.int q a) true).run P w = .ok (.tuple #[(m a).getD z, .bool (m a).isSome]) w := by
 obtain ⟨D, h1, h2, _, h3⟩ := h
 obtain ⟨v, ps, hr, hv⟩ := h1.look_ok (int_keyed hk) ht hz (tokR_mk hzo) (keyOf_int_mk hk ha)
 rw [hr, (h3 a ha).1]
 cases hm : m a with
 | some u => {
 rw [((h3 a ha).2 u hm).2] at hv
 rw [tokR_inv hv]; rfl
 }
 | none => {
 have hn := (h3 a ha).1
 rw [hm] at hn
 rw [atKey_of_not_has hn] at hv
 rw [tokR_inv hv]; rfl
 }
theorem Fr.of_turned (h : w.mapTurned w' b) : Fr [b] w w' := (Fr.refl [b] w).grown h.grown (fun k e => .inl (by simp at e; simp [e]))
theorem keyLit_int (q : IntKind) (a : Int) : WideAt.IsKeyLit (.int q a) := trivial
theorem IMap.put (h : IMap P k q ok w b m n) (hk : P.underlying k = some (.int q)) (ht : P.underlying t = some (.map k e)) (hn : n < maxLen) {a : Int} (ha : (Lit.int q a).wf = true) {v : Value} (hv : ok v = true) :
    ∃ w', (Instr.mapUpdate t (.map (some b)) (.int q a) v).run P w = .ok () w' ∧ IMap P k q ok w' b (updM m a (some v)) (if (m a).isSome then n else n + 1) ∧ Fr [b] w w' := by
 obtain ⟨D, h1, h2, hs, h3⟩ := h
 obtain ⟨w', hr, h1', hT⟩ := h1.store (int_keyed hk) ht hn (keyOf_int_mk hk ha) (tokR_mk hv)
 refine ⟨w', hr, ⟨D.put (.int q a) (.held v), ?_, h2.put (keyLit_int q a) _, ?_, fun x hx => ?_⟩, Fr.of_turned hT⟩
 {
 have := ownsMap_tight h1'
 rw [size_put h2, (h3 a ha).1, hs] at this
 exact this
 }
 · rw [size_put h2, (h3 a ha).1, hs]
 {
 by_cases e : x = a
 {
 subst e
 rw [updM_same]
 refine ⟨has_put_same h2.isMap (keyLit_int q x) _, fun u hu => ?_⟩
 cases hu
 exact ⟨hv, fun z => atKey_put_same h2.isMap (keyLit_int q x) _ z⟩
 }
 {
 have hne : (Lit.int q x) ≠ .int q a := fun h => e (by injection h)
 rw [updM_other e, has_put_other hne]
 exact ⟨(h3 x hx).1, fun u hu => ⟨((h3 x hx).2 u hu).1, fun z => by rw [atKey_put_other hne]; exact ((h3 x hx).2 u hu).2 z⟩⟩
 }
 }
theorem IMap.del (h : IMap P k q ok w b m n) (hk : P.underlying k = some (.int q)) (ht : P.underlying t = some (.map k e)) {a : Int} (ha : (Lit.int q a).wf = true) (ty : TypeId) :
    ∃ w', (Builtin.delete_ #[t, k] ty #[.map (some b), .int q a]).run P w = .ok (.tuple #[]) w' ∧ IMap P k q ok w' b (updM m a none) (if (m a).isSome then n - 1 else n) ∧ Fr [b] w w' := by
 obtain ⟨D, h1, h2, hs, h3⟩ := h
 obtain ⟨w', hr, h1', hT⟩ := h1.drop (int_keyed hk) ht (keyOf_int_mk hk ha) ty
 have hsz : Maps.size (D.del (.int q a)) = if (m a).isSome then n - 1 else n := by {
 have := size_del (k := .int q a) h2
 rw [(h3 a ha).1, hs] at this
 cases hm : (m a).isSome <;> rw [hm] at this <;> simp at this ⊢ <;> omega
 }
 refine ⟨w', hr, ⟨D.del (.int q a), ?_, h2.del _, hsz, fun x hx => ?_⟩, Fr.of_turned hT⟩
 {
 have := ownsMap_tight h1'
 rw [hsz] at this
 exact this
 }
 {
 by_cases e : x = a
 {
 subst e
 rw [updM_same]
 exact ⟨has_del_same, fun u hu => by cases hu⟩
 }
 {
 have hne : (Lit.int q x) ≠ .int q a := fun h => e (by injection h)
 rw [updM_other e, has_del_other hne]
 exact ⟨(h3 x hx).1, fun u hu => ⟨((h3 x hx).2 u hu).1, fun z => by rw [atKey_del_other hne]; exact ((h3 x hx).2 u hu).2 z⟩⟩
 }
 }
end
theorem wpList_imap_put {P : Program} {w : World} {ops : Array Oper} {rest : List Oper} {o : Oper} {act : Act} {Q : Exit → Act → World → Prop} (hg : o.guard = none) (mo x v : Operand) (t : TypeId) (hop : o.op = Op.mapUpdate t mo x v)
    {k e : TypeId} {q : IntKind} {ok : Value → Bool} {b n : Nat} {m : Int → Option Value} (h : IMap P k q ok w b m n) (hk : P.underlying k = some (.int q)) (ht : P.underlying t = some (.map k e)) (hn : n < maxLen)
    (hm : act.eval mo = .map (some b)) (a : Int) (hx : act.eval x = .int q a) (ha : (Lit.int q a).wf = true) (u : Value) (hv : act.eval v = u) (hu : ok u = true)
    (hK : ∀ w', IMap P k q ok w' b (updM m a (some u)) (if (m a).isSome then n else n + 1) → Fr [b] w w' → wpList P ops Q rest (act.put o.dst undef) w') : wpList P ops Q (o :: rest) act w := by
 refine wpList_plain hg fun K' hK' => ?_
 obtain ⟨w', hrun, r1, r2⟩ := h.put hk ht hn ha hu
 unfold Oper.wp
 simp [execOp, hop, hm, hx, hv, hrun, Result.andThen]
 exact hK' _ _ (hK w' r1 r2)
end Go.Proofs.YtgmnemndjjmgkaaGreat
namespace Go.Proofs.YtgmnemndjjmgkaaGreat
open Go.RowKit
set_option maxRecDepth 10000
set_option maxHeartbeats 1600000
theorem arena_copy {w : World} {pa : Nat} {A : Ar} {l : List Nat} (h : ArenaAt w pa A l) :
    Calls Tryz.prog 101 #[ptr pa] w fun e w' => ∃ pa', e = .returned (ptr pa') ∧ ∃ l', ArenaAt w' pa' A l' ∧ Fr [] w w' ∧ ∀ b ∈ l', w.heap.size ≤ b := by
 have hok := h.ok
 have hs := hok.hs
 have hb := hok.hb
 have HA := Lib.hid h
 obtain ⟨v0, bs, st, af, h1, h2, h3, rfl, hnd, hl, _, hst, hch⟩ := h
 have c0 := h1.cell 0
 have c1 := h1.cell 1
 have c2 := h1.cell 2
 have c3 := h1.cell 3
 have c4 := h1.cell 4
 have c5 := h1.cell 5
 simp only [List.getElem?_cons_zero, List.getElem?_cons_succ] at c0 c1 c2 c3 c4 c5
 obtain ⟨a2, cp2, rfl⟩ := ownsRow_slice h2
 have hpa := h1.lt
 have H1 := Lib.hid (And.intro h1 (And.intro h2 h3)); clear h1 h2 h3
 have hbl : bs.length ≤ 1024 := by omega
 go_enter Tryz.func101, Tryz.ntmps101
 go_wp2_with (go_at_call 139; refine (arena_valid pa _ c0).mono ?_; rintro e w' ⟨rfl, rfl⟩)
 go_still_tail 16, (by kernel_rfl)
 change wpList _ _ _ _ _ w.drew
 have hF0 : Fr [] w (w.alloc (.cells #[.pointer (some ⟨w.heap.size, 0, none⟩), .slice none 0 0, .int .i64 A.slots, .int .i64 A.begun, .int .i64 A.used, .int .i64 (lastOf A.free)] 198)).drew := ((Fr.refl [] w).alloc _).drew
 have hb0 := (Blk.new w [ptr w.heap.size, .slice none 0 0, .int .i64 A.slots, .int .i64 A.begun, .int .i64 A.used, .int .i64 (lastOf A.free)] 198).drew
 have d1 : (w.alloc (.cells #[.pointer (some ⟨w.heap.size, 0, none⟩), .slice none 0 0, .int .i64 A.slots, .int .i64 A.begun, .int .i64 A.used, .int .i64 (lastOf A.free)] 198)).cell? ⟨pa, 1, none⟩ = some (.slice a2 bs.length cp2) := ((Fr.refl [] w).alloc _).cell c1 (by simp)
 go_wp2
 have hsz1 : (w.alloc (.cells #[.pointer (some ⟨w.heap.size, 0, none⟩), .slice none 0 0, .int .i64 A.slots, .int .i64 A.begun, .int .i64 A.used, .int .i64 (lastOf A.free)] 198)).drew.heap.size = w.heap.size + 1 := by simp
 have HB0 : Hid (Blk (w.alloc (.cells #[.pointer (some ⟨w.heap.size, 0, none⟩), .slice none 0 0, .int .i64 A.slots, .int .i64 A.begun, .int .i64 A.used, .int .i64 (lastOf A.free)] 198)).drew w.heap.size 198 [ptr w.heap.size, .slice none 0 0, .int .i64 A.slots, .int .i64 A.begun, .int .i64 A.used, .int .i64 (lastOf A.free)]) := Lib.hid hb0
 have HF0 := Lib.hid hF0; clear hF0 hb0
 generalize (w.alloc (.cells #[.pointer (some ⟨w.heap.size, 0, none⟩), .slice none 0 0, .int .i64 A.slots, .int .i64 A.begun, .int .i64 A.used, .int .i64 (lastOf A.free)] 198)).drew = w1 at *
 clear c0 c1 c2 c3 c4 c5 d1
 go_loopw [37] (fun si wr => ∃ (i : Nat) (v : Value) (bs' : List Nat), i ≤ bs.length ∧ si = .int .i64 i ∧ bs'.length = i ∧ Hid (Fr [] w wr) ∧ Hid (Blk wr w.heap.size 198 [ptr w.heap.size, v, .int .i64 A.slots, .int .i64 A.begun, .int .i64 A.used, .int .i64 (lastOf A.free)]) ∧
   wr.ownsRow 0 209 1 v i (bs'.map ptr) ∧ Hid (∀ q, v.ownBlock = some q → w.heap.size < q ∧ q ∉ bs') ∧ Hid (bs'.Nodup ∧ ∀ b ∈ bs', w.heap.size < b) ∧
   Hid (∀ (j b b' : Nat), bs[j]? = some b → bs'[j]? = some b' → ∃ cs, Blk w b 211 cs ∧ Blk wr b' 211 cs)) (fun si _ => bs.length - (intOf si).toNat)
 case atStart => exact ⟨0, .slice none 0 0, [], Nat.zero_le _, rfl, rfl, HF0, HB0, World.ownsRow_nil _ _ _ _, Lib.hid (fun q e => by cases e), Lib.hid ⟨List.nodup_nil, by simp⟩, Lib.hid (fun j b b' _ h => by simp at h)⟩
 case round =>
  clear HB0 HF0 hsz1
  obtain ⟨i, v, bs', hi, rfl, hbl', HF, HB, hown, HQ, HN, HC⟩ := hrel
  obtain ⟨a8, c8, rfl⟩ := ownsRow_slice hown
  have c1 := HB.out.cell 1
  have z1 := HB.out.frozen 1
  simp only [List.getElem?_cons_zero, List.getElem?_cons_succ] at c1
  by_cases hlt : i < bs.length
  {
  have hil : (i : Int) < bs.length := by omega
  obtain ⟨g, cap, e, _, hg, hcg, _⟩ := ownsRow_at H1.out.2.1 hlt
  simp only [Value.slice.injEq, true_and] at e
  obtain ⟨rfl, rfl⟩ := e
  have hbi : bs[i]? = some bs[i] := List.getElem?_eq_getElem hlt
  obtain ⟨cs, hcs, hrs⟩ := H1.out.2.2 i bs[i] hbi
  generalize bs[i] = b at *
  have hcg' : wr.cell? ⟨g, i, none⟩ = some (ptr b) := HF.out.cell (by rw [hcg]; simp [hbi]) (by simp)
  have hcsr := HF.out.blk hcs (by simp)
  have hcl := (hrs 0 (by decide)).2.2.2
  have hone : ∀ u ∈ cs, u.oneCell' = true := by {
  intro u hu
  obtain ⟨k, hk⟩ := List.mem_iff_getElem?.1 hu
  have hk2 : k < 192 := by rw [← hcl]; exact (List.getElem?_eq_some_iff.1 hk).1
  obtain ⟨r0, r1, ⟨t, r2⟩, _⟩ := hrs (k / 3) (by omega)
  rcases (show k = k / 3 * 3 ∨ k = k / 3 * 3 + 1 ∨ k = k / 3 * 3 + 2 by omega) with e | e | e
  · rw [← e, hk] at r0; cases r0; rfl
  · rw [← e, hk] at r1; cases r1; rfl
  · rw [← e, hk] at r2; cases r2; rfl
  }
  have hinfo : (Tryz.prog.info? 211).map (·.size) = some cs.toArray.size := by {
  have : (Tryz.prog.info? 211).map (·.size) = some 192 := by kernel_rfl
  rw [this]; simp [hcl]
  }
  have hz : Tryz.zeroCells211.size = cs.toArray.size := by {
  have := zero_block_len
  simp only [Array.length_toList] at this
  rw [this]; simp [hcl]
  }
  have Hone := Lib.hid hone; clear hone
  have Hcs := Lib.hid hcs; clear hcs hrs
  go_wp2
  refine wp_load_row 211 _ rfl b rfl 211 cs.toArray (0, 0) _ hcsr Tryz.underlying211 rfl hinfo ?_
  have hst := run_storeCells_new (P := Tryz.prog) wr 211 Tryz.zeroCells211 cs.toArray hinfo hz (by simpa using Hone.out)
  simp only [List.toList_toArray] at hst
  have hFa : Fr [] wr (wr.alloc (.cells cs.toArray 211)) := (Fr.refl [] wr).alloc _
  have c1' := hFa.cell c1 (by simp)
  have hbn : Blk (wr.alloc (.cells cs.toArray 211)) wr.heap.size 211 cs := Blk.new wr cs 211
  have Hbn := Lib.hid hbn; clear hbn
  have HFa := Lib.hid hFa; clear hFa
  go_wp2_with (at_builtin; refine wpList_app1 rfl _ _ 196 rfl 209 (.pointer none) 8 Tryz.underlying196 Tryz.info209 rfl (.slice a8 i c8) i _ rfl ((hown.alloc _).alloc _) (wr.heap.size + 1) (ptr wr.heap.size) rfl (cell_new1 _ _ _ _ (by simp)) rfl (by omega) (by decide) ?_; intro g' cap' w4 hown4 hgrow4 hg4; have hF4 : Fr (Value.slice a8 i c8).ownBlock.toList (wr.alloc (.cells cs.toArray 211)) w4 := ((Fr.refl _ _).alloc _).grown hgrow4 (fun q e => .inl (by simp [e])); have hB4 : Blk w4 w.heap.size 198 [ptr w.heap.size, .slice a8 i c8, .int .i64 A.slots, .int .i64 A.begun, .int .i64 A.used, .int .i64 (lastOf A.free)] := hF4.blk (HFa.out.blk HB.out (by simp)) (fun hm => by have := (HQ.out w.heap.size (by simpa using hm)).1; omega); have c4 := hB4.cell 1; have z4 := hB4.frozen 1; simp only [List.getElem?_cons_zero, List.getElem?_cons_succ] at c4)
  have hlow : ∀ b' ∈ bs', b' < wr.heap.size := by {
  intro b' hb'
  obtain ⟨j, hj, e⟩ := List.mem_iff_getElem.1 hb'
  obtain ⟨_, _, h2⟩ := HC.out j _ b' (List.getElem?_eq_getElem (show j < bs.length by omega)) (by rw [List.getElem?_eq_getElem hj, e])
  exact h2.lt
  }
  have hhd := HB.out.lt
  have hol : ∀ q, (Value.slice a8 i c8).ownBlock = some q → q < wr.heap.size := fun q hq => (hown.lt q hq).2
  simp only [World.size_alloc] at hg4
  have hgn : g' ≠ w.heap.size := by {
  rintro rfl
  rcases hg4 with e | e
  · have := (HQ.out _ e).1; omega
  · omega
  }
  go_roundw
  case rel =>
   refine ⟨i + 1, .slice (some ⟨g', 0, none⟩) (i + 1) cap', bs' ++ [wr.heap.size], by omega, by go_num, by simp; omega, Lib.hid ?_, Lib.hid (hB4.set 1 _), ?_, Lib.hid (fun q e => ?_), Lib.hid ⟨?_, fun x hx => ?_⟩, Lib.hid (fun j x y hj hy => ?_)⟩
   · exact ((HF.out.trans' HFa.out).trans hF4 (fun q hq => .inr (Nat.le_of_lt (HQ.out q (by simpa using hq)).1))).setCell _ _ (.inr (Nat.le_refl _))
   {
   have e : (bs' ++ [wr.heap.size]).map ptr = bs'.map ptr ++ [ptr wr.heap.size] := by simp
   rw [e]
   exact ownsRow_other hown4 _ _ (by simpa [Value.ownBlock] using hgn)
   }
   {
   simp only [Value.ownBlock, Option.some.injEq] at e
   subst e
   simp only [List.mem_append, List.mem_singleton, not_or]
   rcases hg4 with e | e
   {
   have h1 := hol _ e
   exact ⟨(HQ.out _ e).1, (HQ.out _ e).2, by omega⟩
   }
   {
   refine ⟨by omega, fun hm => ?_, by omega⟩
   have := hlow _ hm
   omega
   }
   }
   {
   rw [List.nodup_append]
   refine ⟨HN.out.1, by simp, fun x hx y hy e => ?_⟩
   simp at hy
   have := hlow x hx
   omega
   }
   {
   simp only [List.mem_append, List.mem_singleton] at hx
   rcases hx with hx | rfl
   · exact HN.out.2 x hx
   · omega
   }
   {
   by_cases hji : j < i
   {
   rw [List.getElem?_append_left (by omega)] at hy
   obtain ⟨cs', k1, k2⟩ := HC.out j x y hj hy
   have hym := List.mem_of_getElem? hy
   refine ⟨cs', k1, (hF4.blk (HFa.out.blk k2 (by simp)) (fun hm => (HQ.out y (by simpa using hm)).2 hym)).other _ _ ?_⟩
   have := HN.out.2 y hym
   simp; omega
   }
   {
   have hjl : j < (bs' ++ [wr.heap.size]).length := (List.getElem?_eq_some_iff.1 hy).1
   simp at hjl
   obtain rfl : j = i := by omega
   rw [List.getElem?_append_right (by omega)] at hy
   simp [hbl'] at hy
   subst hy
   have : x = b := by rw [hbi] at hj; simpa using hj.symm
   subst this
   refine ⟨cs, Hcs.out, (hF4.blk Hbn.out (fun hm => ?_)).other _ _ ?_⟩
   {
   have := hol wr.heap.size (by simpa using hm)
   omega
   }
   · simp; omega
   }
   }
  case measure => simp [intOf]; omega
  }
  {
  obtain rfl : i = bs.length := by omega
  have Hown := Lib.hid hown; clear hown
  go_wp2
  go_ret
  refine ⟨w.heap.size, rfl, w.heap.size :: ((Value.slice a8 bs.length c8).ownBlock.toList ++ bs'), ⟨.slice a8 bs.length c8, bs', st, af, HB.out, by rw [hbl']; exact Hown.out, ?_, rfl, ?_, by rw [hbl', hl], hok, hst, hch⟩, HF.out, ?_⟩
  {
  intro j b' hj
  have hjl : j < bs'.length := (List.getElem?_eq_some_iff.1 hj).1
  have hbj : bs[j]? = some bs[j] := List.getElem?_eq_getElem (by omega)
  obtain ⟨cs, k1, k2⟩ := HC.out j _ b' hbj hj
  obtain ⟨cs0, k3, k4⟩ := H1.out.2.2 j _ hbj
  obtain rfl := k1.eq k3
  exact ⟨cs, k2, k4⟩
  }
  {
  rw [List.nodup_cons, List.nodup_append]
  refine ⟨?_, by cases (Value.slice a8 bs.length c8).ownBlock <;> simp, HN.out.1, ?_⟩
  {
  simp only [List.mem_append, Option.mem_toList, not_or]
  refine ⟨fun e => ?_, fun hm => ?_⟩
  · have := (HQ.out _ e).1; omega
  · have := HN.out.2 _ hm; omega
  }
  {
  intro x hx y hy e
  subst e
  exact (HQ.out x (by simpa using hx)).2 hy
  }
  }
  {
  intro x hx
  simp only [List.mem_cons, List.mem_append, Option.mem_toList] at hx
  rcases hx with rfl | hx | hx
  · exact Nat.le_refl _
  · exact Nat.le_of_lt (HQ.out x hx).1
  · exact Nat.le_of_lt (HN.out.2 x hx)
  }
  }
end Go.Proofs.YtgmnemndjjmgkaaGreat
namespace Go.Proofs.YtgmnemndjjmgkaaGreat
open Go.RowKit Go.Sort
set_option maxRecDepth 10000
set_option maxHeartbeats 800000
def encU (d : Array Int) : List Value := d.toList.map (Value.int .u64)
theorem encU_at {d : Array Int} {t : Nat} (ht : t < d.size) : (encU d)[t]? = some (.int .u64 d[t]!) := by
 simp [encU, ht]
theorem encU_swp {d : Array Int} {i j : Nat} (hi : i < d.size) (hj : j < d.size) : ((encU d).set i (.int .u64 d[j]!)).set j (.int .u64 d[i]!) = encU (swp d i j) := by
 simp only [encU, swp, Array.toList_setIfInBounds, List.map_set]
structure SR (w wr : World) (blk off : Nat) (d : Array Int) : Prop where
  off0 : off = 0
  row : ∃ rest, Blk wr blk 26 (encU d ++ rest) ∧ ∃ l0, Blk w blk 26 l0 ∧ l0.length = d.size + rest.length
  fr : Fr [blk] w wr
section
variable {w wr : World} {blk off : Nat} {d : Array Int}
theorem encU_len (d : Array Int) : (encU d).length = d.size := by simp [encU]
theorem SR.cell (h : SR w wr blk off d) {t : Nat} (ht : t < d.size) : wr.cell? ⟨blk, off + t, none⟩ = some (.int .u64 d[t]!) := by
 obtain ⟨rest, h1, _⟩ := h.row
 rw [h.off0, Nat.zero_add, h1.cell, List.getElem?_append_left (by rw [encU_len]; exact ht), encU_at ht]
theorem SR.frozen (h : SR w wr blk off d) (t : Nat) : wr.frozen? ⟨blk, t, none⟩ = false := by
 obtain ⟨rest, h1, _⟩ := h.row
 exact h1.frozen t
theorem SR.drewN (h : SR w wr blk off d) (q : Nat) : SR w (wr.drewN q) blk off d := by
 obtain ⟨rest, h1, h2⟩ := h.row
 exact ⟨h.off0, ⟨rest, h1.drewN q, h2⟩, h.fr.drewN q⟩
theorem SR.alloc (h : SR w wr blk off d) (o : Obj) : SR w (wr.alloc o) blk off d := by
 obtain ⟨rest, h1, h2⟩ := h.row
 exact ⟨h.off0, ⟨rest, h1.alloc o, h2⟩, h.fr.alloc o⟩
theorem SR.other (h : SR w wr blk off d) {b i : Nat} (u : Value) (hb : w.heap.size ≤ b) (hne : b ≠ blk) : SR w (wr.setCell ⟨b, i, none⟩ u) blk off d := by
 obtain ⟨rest, h1, h2⟩ := h.row
 exact ⟨h.off0, ⟨rest, h1.other _ _ (Ne.symm hne), h2⟩, h.fr.setCell _ _ (.inr hb)⟩
theorem SR.swap (h : SR w wr blk off d) (q : Nat) {i j : Nat} (hi : i < d.size) (hj : j < d.size) :
    SR w (((wr.drewN q).setCell ⟨blk, off + i, none⟩ (.int .u64 d[j]!)).setCell ⟨blk, off + j, none⟩ (.int .u64 d[i]!)) blk off (swp d i j) := by
 obtain ⟨rest, h1, l0, h2, h3⟩ := h.row
 refine ⟨h.off0, ⟨rest, ?_, l0, h2, by rw [h3, size_swp]⟩, ((h.fr.drewN q).setCell _ _ (.inl (by simp))).setCell _ _ (.inl (by simp))⟩
 rw [h.off0, Nat.zero_add, Nat.zero_add, ← encU_swp hi hj]
 have := ((h1.drewN q).set i (.int .u64 d[j]!)).set j (.int .u64 d[i]!)
 rw [List.set_append_left _ _ (by rw [encU_len]; exact hi), List.set_append_left _ _ (by rw [List.length_set, encU_len]; exact hj)] at this
 exact this
theorem SR.lt (h : SR w wr blk off d) : blk < wr.heap.size := by
 obtain ⟨rest, h1, _⟩ := h.row
 exact h1.lt
end
theorem nan_u (x : Int) (w : World) : Calls Tryz.prog 147 #[.int .u64 x] w fun e w' => e = .returned (.bool false) ∧ w' = w := by
 go_enter Tryz.func147, Tryz.ntmps147
 go_wp2
 go_ret
 exact ⟨by simp, rfl⟩
theorem less_u (x y : Int) (w : World) : Calls Tryz.prog 219 #[.int .u64 x, .int .u64 y] w fun e w' => e = .returned (.bool (ltInt x y)) ∧ w' = w := by
 go_enter Tryz.func219, Tryz.ntmps219
 go_wp2_with (go_at_call 147; refine (nan_u _ _).mono ?_; rintro e w' ⟨rfl, rfl⟩)
 go_ret
 exact ⟨rfl, rfl⟩
theorem ins_u {w wr : World} {blk off cap a b : Nat} {d : Array Int} (h : SR w wr blk off d) (hab : a ≤ b) (hb : b ≤ d.size) (hsz : d.size < 4611686018427387904) :
    Calls Tryz.prog 213 #[.slice (some ⟨blk, off, none⟩) d.size cap, .int .i64 a, .int .i64 b] wr fun e w' => e = .returned (.tuple #[]) ∧ SR w w' blk off (insertionSort ltInt d a b) := by
 have HS := Lib.hid h; clear h
 go_enter Tryz.func213, Tryz.ntmps213
 go_wp2
 go_loopw [6] (fun vi wr => ∃ (i : Nat) (dk : Array Int), vi = .int .i64 i ∧ a < i ∧ i ≤ b + 1 ∧ dk.size = d.size ∧ Hid (SR w wr blk off dk) ∧ Hid (insOuter ltInt a b i dk = insOuter ltInt a b (a + 1) d)) (fun vi _ => b + 1 - (intOf vi).toNat)
 case atStart => exact ⟨a + 1, d, by go_num, by omega, by omega, rfl, HS, Lib.hid rfl⟩
 case round =>
  clear HS
  obtain ⟨i, dk, rfl, hai, hib, hsk, HS, HO⟩ := hrel
  by_cases hlt : i < b
  {
  go_wp2
  go_loopw [7] (fun vj wr2 => ∃ (j : Nat) (dj : Array Int), vj = .int .i64 j ∧ a ≤ j ∧ j ≤ i ∧ dj.size = d.size ∧ Hid (SR w wr2 blk off dj) ∧ Hid (insInner ltInt a j dj = insInner ltInt a i dk)) (fun vj _ => (intOf vj).toNat)
  case atStart => exact ⟨i, dk, rfl, by omega, Nat.le_refl _, hsk, HS, Lib.hid rfl⟩
  case round =>
   clear HS
   obtain ⟨j, dj, rfl, haj, hji, hsj, HS, HI⟩ := hrel
   have OUT : ∀ q, (j ≤ a ∨ ltInt dj[j]! dj[j - 1]! = false) → Hid (SR w (wr.drewN q) blk off dj) ∧ Hid (insOuter ltInt a b (i + 1) dj = insOuter ltInt a b (a + 1) d) := fun q hs =>
     ⟨Lib.hid (HS.out.drewN q), Lib.hid (by rw [← HO.out, insOuter_go _ _ _ _ _ hlt, ← HI.out, insInner_stop _ _ _ _ hs])⟩
   have HOUT := Lib.hid OUT; clear OUT
   by_cases hja : a < j
   {
   have hc : ∀ t, t < d.size → wr.cell? ⟨blk, off + t, none⟩ = some (.int .u64 dj[t]!) := fun t ht => HS.out.cell (by omega)
   have hf : ∀ t, t < d.size → wr.frozen? ⟨blk, off + t, none⟩ = false := fun t _ => HS.out.frozen _
   obtain ⟨G, hG⟩ : ∃ G : Nat → Int, ∀ t, dj[t]! = G t := ⟨fun t => dj[t]!, fun _ => rfl⟩
   simp only [hG] at hc
   have HG := Lib.hid hG; clear hG
   cases hl : ltInt (G j) (G (j - 1)) with
   | true => {
   go_wp2
   go_quiet (first | (go_at_call 219; refine Calls.quiet_of_same (less_u _ _ _)))
   go_wp2
   go_region
   all_goals go_wp2
   go_roundw
   case rel =>
    refine ⟨j - 1, swp dj j (j - 1), by congr 1; omega, by omega, by omega, by rw [size_swp]; exact hsj, Lib.hid ?_, Lib.hid ?_⟩
    {
    have := HS.out.swap (nq + 1) (i := j) (j := j - 1) (by omega) (by omega)
    rw [HG.out, HG.out] at this
    exact this
    }
    · rw [← HI.out, insInner_go ltInt a j dj hja (by rw [HG.out, HG.out]; exact hl)]
   case measure => simp [intOf]; omega
   }
   | false => {
   go_wp2
   go_quiet (first | (go_at_call 219; refine Calls.quiet_of_same (less_u _ _ _)))
   go_wp2
   go_roundw
   case rel =>
    obtain ⟨h1, h2⟩ := HOUT.out nq (.inr (by rw [HG.out, HG.out]; exact hl))
    exact ⟨i + 1, dj, by go_num, by omega, by omega, hsj, h1, h2⟩
   case measure => simp [intOf]; omega
   }
   }
   {
   go_wp2
   go_quiet (first | (go_at_call 219; refine Calls.quiet_of_same (less_u _ _ _)))
   go_wp2
   go_roundw
   case rel =>
    obtain ⟨h1, h2⟩ := HOUT.out nq (.inl (by omega))
    exact ⟨i + 1, dj, by go_num, by omega, by omega, hsj, h1, h2⟩
   case measure => simp [intOf]; omega
   }
  }
  {
  go_wp2
  go_end0
  exact ⟨rfl, by unfold Sort.insertionSort; rw [← HO.out, insOuter_stop _ _ _ _ _ hlt]; exact HS.out⟩
  }
set_option maxHeartbeats 1600000
theorem wrapN {x : Int} {y : Nat} (h : x = y) (hy : y < 9223372036854775808) : IntKind.i64.wrap x = (y : Int) := by rw [h]; exact IntWalk.i64_in _ (by omega)
theorem sift_u {w wr : World} {blk off cap lo hi first n : Nat} {d : Array Int} (h : SR w wr blk off d) (hn : d.size = n) (hlo : lo ≤ hi) (hb : first + hi ≤ n) (hsz : n < 4611686018427387904) :
    Calls Tryz.prog 226 #[.slice (some ⟨blk, off, none⟩) n cap, .int .i64 lo, .int .i64 hi, .int .i64 first] wr fun e w' => e = .returned (.tuple #[]) ∧ SR w w' blk off (siftDown ltInt hi first lo d) := by
 have HS := Lib.hid h; clear h
 go_enter Tryz.func226, Tryz.ntmps226
 go_wp2
 go_loopw [8] (fun vr wr => ∃ (root : Nat) (dk : Array Int), vr = .int .i64 root ∧ root ≤ hi ∧ dk.size = n ∧ Hid (SR w wr blk off dk) ∧ Hid (siftDown ltInt hi first root dk = siftDown ltInt hi first lo d)) (fun vr _ => hi - (intOf vr).toNat)
 case atStart => exact ⟨lo, d, rfl, hlo, hn, HS, Lib.hid rfl⟩
 case round =>
  clear HS
  obtain ⟨root, dk, rfl, hr, hsk, HS, HO⟩ := hrel
  obtain ⟨c, hc⟩ : ∃ c : Nat, c = 2 * root + 1 := ⟨_, rfl⟩
  have hci : 2 * (root : Int) + 1 = (c : Int) := by omega
  by_cases h1 : hi ≤ 2 * root + 1
  {
  have hd : decide (hi ≤ c) = true := decide_eq_true (by omega)
  have Hc := Lib.hid hc; clear hc
  go_wp2
  go_end0
  exact ⟨rfl, by rw [← HO.out, sd_end _ _ h1]; exact HS.out⟩
  }
  {
  have hd : decide (hi ≤ c) = false := decide_eq_false (by omega)
  have hlt0 : c < hi := by omega
  obtain ⟨r, hrr⟩ : ∃ r : Nat, r = first + root := ⟨_, rfl⟩
  obtain ⟨p, hp⟩ : ∃ p : Nat, p = first + c := ⟨_, rfl⟩
  obtain ⟨p1, hp1⟩ : ∃ p1 : Nat, p1 = first + c + 1 := ⟨_, rfl⟩
  obtain ⟨G, hG⟩ : ∃ G : Nat → Int, ∀ t, dk[t]! = G t := ⟨fun t => dk[t]!, fun _ => rfl⟩
  have cr : wr.cell? ⟨blk, off + r, none⟩ = some (.int .u64 (G r)) := by rw [HS.out.cell (by omega), hG]
  have cp : wr.cell? ⟨blk, off + p, none⟩ = some (.int .u64 (G p)) := by rw [HS.out.cell (by omega), hG]
  have fr : wr.frozen? ⟨blk, off + r, none⟩ = false := HS.out.frozen _
  have fp : wr.frozen? ⟨blk, off + p, none⟩ = false := HS.out.frozen _
  have rn : (r : Int) < n := by omega
  have pn : (p : Int) < n := by omega
  have ne3 : r ≠ p := by omega
  have ne4 : p ≠ r := by omega
  have wr1 : IntKind.i64.wrap ((first : Int) + root) = (r : Int) := wrapN (by omega) (by omega)
  have wp : IntKind.i64.wrap ((first : Int) + c) = (p : Int) := wrapN (by omega) (by omega)
  obtain ⟨c1, hc1⟩ : ∃ c1 : Nat, c1 = c + 1 := ⟨_, rfl⟩
  have wc1 : IntKind.i64.wrap ((c : Int) + 1) = (c1 : Int) := wrapN (by omega) (by omega)
  have hc1i : (c : Int) + 1 = (c1 : Int) := by omega
  by_cases h2 : c1 < hi
  {
  have hd1 : decide ((c1 : Int) < (hi : Int)) = true := decide_eq_true (by omega)
  have cp1 : wr.cell? ⟨blk, off + p1, none⟩ = some (.int .u64 (G p1)) := by rw [HS.out.cell (by omega), hG]
  have fp1 : wr.frozen? ⟨blk, off + p1, none⟩ = false := HS.out.frozen _
  have p1n : (p1 : Int) < n := by omega
  have ne1 : r ≠ p1 := by omega
  have ne2 : p1 ≠ r := by omega
  have wp1 : IntKind.i64.wrap ((p : Int) + 1) = (p1 : Int) := wrapN (by omega) (by omega)
  have wp1' : IntKind.i64.wrap ((first : Int) + c1) = (p1 : Int) := wrapN (by omega) (by omega)
  have HN := Lib.hid (show r = first + root ∧ p = first + (2 * root + 1) ∧ p1 = first + (2 * root + 2) ∧ c = 2 * root + 1 ∧ c1 = 2 * root + 2 by omega)
  have HG := Lib.hid hG; clear hG hc hp hp1 hrr hc1 h1
  cases hl2 : ltInt (G p) (G p1) with
  | true => {
  cases hl3 : ltInt (G r) (G p1) with
  | false => {
  go_wp2
  go_quiet (first | (go_at_call 219; refine Calls.quiet_of_same (less_u _ _ _)))
  go_wp2
  have cr2 : (wr.drewN nq).cell? ⟨blk, off + r, none⟩ = some (.int .u64 (G r)) := cr
  have fr2 : (wr.drewN nq).frozen? ⟨blk, off + r, none⟩ = false := fr
  have cp2 : (wr.drewN nq).cell? ⟨blk, off + p, none⟩ = some (.int .u64 (G p)) := cp
  have fp2 : (wr.drewN nq).frozen? ⟨blk, off + p, none⟩ = false := fp
  have cp12 : (wr.drewN nq).cell? ⟨blk, off + p1, none⟩ = some (.int .u64 (G p1)) := cp1
  have fp12 : (wr.drewN nq).frozen? ⟨blk, off + p1, none⟩ = false := fp1
  have HS2 := Lib.hid (HS.out.drewN nq)
  generalize wr.drewN nq = wr2 at *
  go_quiet (first | (go_at_call 219; refine Calls.quiet_of_same (less_u _ _ _)))
  go_wp2
  (try simp only [Exit.inBlock, Exit.then]); refine bodyPost_ret (results_none rfl _ _ _) rfl ?_
  exact ⟨rfl, by
    obtain ⟨e1, e2, e3, e4, e5⟩ := HN.out
    rw [← HO.out, sd_right_stop (root := root) ltInt dk (by omega) (by rw [← e2, ← e3, HG.out, HG.out]; exact hl2) (by rw [← e1, ← e3, HG.out, HG.out]; exact hl3)]; exact HS2.out.drewN _⟩
  }
  | true => {
  go_wp2
  go_quiet (first | (go_at_call 219; refine Calls.quiet_of_same (less_u _ _ _)))
  go_wp2
  have cr2 : (wr.drewN nq).cell? ⟨blk, off + r, none⟩ = some (.int .u64 (G r)) := cr
  have fr2 : (wr.drewN nq).frozen? ⟨blk, off + r, none⟩ = false := fr
  have cp2 : (wr.drewN nq).cell? ⟨blk, off + p, none⟩ = some (.int .u64 (G p)) := cp
  have fp2 : (wr.drewN nq).frozen? ⟨blk, off + p, none⟩ = false := fp
  have cp12 : (wr.drewN nq).cell? ⟨blk, off + p1, none⟩ = some (.int .u64 (G p1)) := cp1
  have fp12 : (wr.drewN nq).frozen? ⟨blk, off + p1, none⟩ = false := fp1
  have HS2 := Lib.hid (HS.out.drewN nq)
  generalize wr.drewN nq = wr2 at *
  go_quiet (first | (go_at_call 219; refine Calls.quiet_of_same (less_u _ _ _)))
  go_wp2
  go_region
  all_goals go_wp2
  go_roundw
  case rel =>
   obtain ⟨e1, e2, e3, e4, e5⟩ := HN.out
   refine ⟨c1, swp dk r p1, rfl, by omega, by rw [size_swp]; exact hsk, Lib.hid ?_, Lib.hid ?_⟩
   {
   have := HS2.out.swap (nq + 1) (i := r) (j := p1) (by omega) (by omega)
   rw [HG.out, HG.out] at this
   exact this
   }
   · rw [← HO.out, sd_right_go (root := root) ltInt dk (by omega) (by rw [← e2, ← e3, HG.out, HG.out]; exact hl2) (by rw [← e1, ← e3, HG.out, HG.out]; exact hl3), e1, e3, e5]
  case measure => simp [intOf]; have := HN.out; omega
  }
  }
  | false => {
  cases hl3 : ltInt (G r) (G p) with
  | false => {
  go_wp2
  go_quiet (first | (go_at_call 219; refine Calls.quiet_of_same (less_u _ _ _)))
  go_wp2
  have cr2 : (wr.drewN nq).cell? ⟨blk, off + r, none⟩ = some (.int .u64 (G r)) := cr
  have fr2 : (wr.drewN nq).frozen? ⟨blk, off + r, none⟩ = false := fr
  have cp2 : (wr.drewN nq).cell? ⟨blk, off + p, none⟩ = some (.int .u64 (G p)) := cp
  have fp2 : (wr.drewN nq).frozen? ⟨blk, off + p, none⟩ = false := fp
  have cp12 : (wr.drewN nq).cell? ⟨blk, off + p1, none⟩ = some (.int .u64 (G p1)) := cp1
  have fp12 : (wr.drewN nq).frozen? ⟨blk, off + p1, none⟩ = false := fp1
  have HS2 := Lib.hid (HS.out.drewN nq)
  generalize wr.drewN nq = wr2 at *
  go_quiet (first | (go_at_call 219; refine Calls.quiet_of_same (less_u _ _ _)))
  go_wp2
  (try simp only [Exit.inBlock, Exit.then]); refine bodyPost_ret (results_none rfl _ _ _) rfl ?_
  exact ⟨rfl, by
    obtain ⟨e1, e2, e3, e4, e5⟩ := HN.out
    rw [← HO.out, sd_left_stop (root := root) ltInt dk (by omega) (fun _ => by rw [← e2, ← e3, HG.out, HG.out]; exact hl2) (by rw [← e1, ← e2, HG.out, HG.out]; exact hl3)]; exact HS2.out.drewN _⟩
  }
  | true => {
  go_wp2
  go_quiet (first | (go_at_call 219; refine Calls.quiet_of_same (less_u _ _ _)))
  go_wp2
  have cr2 : (wr.drewN nq).cell? ⟨blk, off + r, none⟩ = some (.int .u64 (G r)) := cr
  have fr2 : (wr.drewN nq).frozen? ⟨blk, off + r, none⟩ = false := fr
  have cp2 : (wr.drewN nq).cell? ⟨blk, off + p, none⟩ = some (.int .u64 (G p)) := cp
  have fp2 : (wr.drewN nq).frozen? ⟨blk, off + p, none⟩ = false := fp
  have cp12 : (wr.drewN nq).cell? ⟨blk, off + p1, none⟩ = some (.int .u64 (G p1)) := cp1
  have fp12 : (wr.drewN nq).frozen? ⟨blk, off + p1, none⟩ = false := fp1
  have HS2 := Lib.hid (HS.out.drewN nq)
  generalize wr.drewN nq = wr2 at *
  go_quiet (first | (go_at_call 219; refine Calls.quiet_of_same (less_u _ _ _)))
  go_wp2
  go_region
  all_goals go_wp2
  go_roundw
  case rel =>
   obtain ⟨e1, e2, e3, e4, e5⟩ := HN.out
   refine ⟨c, swp dk r p, rfl, by omega, by rw [size_swp]; exact hsk, Lib.hid ?_, Lib.hid ?_⟩
   {
   have := HS2.out.swap (nq + 1) (i := r) (j := p) (by omega) (by omega)
   rw [HG.out, HG.out] at this
   exact this
   }
   · rw [← HO.out, sd_left_go (root := root) ltInt dk (by omega) (fun _ => by rw [← e2, ← e3, HG.out, HG.out]; exact hl2) (by rw [← e1, ← e2, HG.out, HG.out]; exact hl3), e1, e2, e4]
  case measure => simp [intOf]; have := HN.out; omega
  }
  }
  }
  {
  have hd1 : decide ((c1 : Int) < (hi : Int)) = false := decide_eq_false (by omega)
  have HN := Lib.hid (show r = first + root ∧ p = first + (2 * root + 1) ∧ p1 = first + (2 * root + 2) ∧ c = 2 * root + 1 ∧ c1 = 2 * root + 2 by omega)
  have H1 := Lib.hid h1
  have HG := Lib.hid hG; clear hG hc hp hp1 hrr hc1 h1
  cases hl3 : ltInt (G r) (G p) with
  | false => {
  go_wp2
  go_quiet (first | (go_at_call 219; refine Calls.quiet_of_same (less_u _ _ _)))
  go_wp2
  have cr2 : (wr.drewN nq).cell? ⟨blk, off + r, none⟩ = some (.int .u64 (G r)) := cr
  have fr2 : (wr.drewN nq).frozen? ⟨blk, off + r, none⟩ = false := fr
  have cp2 : (wr.drewN nq).cell? ⟨blk, off + p, none⟩ = some (.int .u64 (G p)) := cp
  have fp2 : (wr.drewN nq).frozen? ⟨blk, off + p, none⟩ = false := fp
  have HS2 := Lib.hid (HS.out.drewN nq)
  generalize wr.drewN nq = wr2 at *
  go_quiet (first | (go_at_call 219; refine Calls.quiet_of_same (less_u _ _ _)))
  go_wp2
  (try simp only [Exit.inBlock, Exit.then]); refine bodyPost_ret (results_none rfl _ _ _) rfl ?_
  exact ⟨rfl, by
    obtain ⟨e1, e2, e3, e4, e5⟩ := HN.out
    rw [← HO.out, sd_left_stop (root := root) ltInt dk (by have := H1.out; omega) (fun _ => by omega) (by rw [← e1, ← e2, HG.out, HG.out]; exact hl3)]; exact HS2.out.drewN _⟩
  }
  | true => {
  go_wp2
  go_quiet (first | (go_at_call 219; refine Calls.quiet_of_same (less_u _ _ _)))
  go_wp2
  have cr2 : (wr.drewN nq).cell? ⟨blk, off + r, none⟩ = some (.int .u64 (G r)) := cr
  have fr2 : (wr.drewN nq).frozen? ⟨blk, off + r, none⟩ = false := fr
  have cp2 : (wr.drewN nq).cell? ⟨blk, off + p, none⟩ = some (.int .u64 (G p)) := cp
  have fp2 : (wr.drewN nq).frozen? ⟨blk, off + p, none⟩ = false := fp
  have HS2 := Lib.hid (HS.out.drewN nq)
  generalize wr.drewN nq = wr2 at *
  go_quiet (first | (go_at_call 219; refine Calls.quiet_of_same (less_u _ _ _)))
  go_wp2
  go_region
  all_goals go_wp2
  go_roundw
  case rel =>
   obtain ⟨e1, e2, e3, e4, e5⟩ := HN.out
   refine ⟨c, swp dk r p, rfl, by have := H1.out; omega, by rw [size_swp]; exact hsk, Lib.hid ?_, Lib.hid ?_⟩
   {
   have := HS2.out.swap (nq + 1) (i := r) (j := p) (by omega) (by omega)
   rw [HG.out, HG.out] at this
   exact this
   }
   · rw [← HO.out, sd_left_go (root := root) ltInt dk (by have := H1.out; omega) (fun _ => by omega) (by rw [← e1, ← e2, HG.out, HG.out]; exact hl3), e1, e2, e4]
  case measure => simp [intOf]; have := HN.out; have := H1.out; omega
  }
  }
  }
theorem SR.swapD {w wr : World} {blk off : Nat} {d : Array Int} (h : SR w wr blk off d) {i j : Nat} (hi : i < d.size) (hj : j < d.size) :
    SR w ((wr.setCell ⟨blk, off + i, none⟩ (.int .u64 d[j]!)).setCell ⟨blk, off + j, none⟩ (.int .u64 d[i]!)).drew blk off (swp d i j) := by
 have := h.swap 0 hi hj
 exact this.drewN 1
theorem heap_u {w wr : World} {blk off cap a b n : Nat} {d : Array Int} (h : SR w wr blk off d) (hn : d.size = n) (hab : a ≤ b) (hb : b ≤ n) (hsz : n < 4611686018427387904) :
    Calls Tryz.prog 214 #[.slice (some ⟨blk, off, none⟩) n cap, .int .i64 a, .int .i64 b] wr fun e w' => e = .returned (.tuple #[]) ∧ SR w w' blk off (heapSort ltInt d a b) := by
 obtain ⟨m, hm⟩ : ∃ m : Nat, m = b - a := ⟨_, rfl⟩
 obtain ⟨k0, hk0⟩ : ∃ k0 : Nat, k0 = (m - 1) / 2 + 1 := ⟨_, rfl⟩
 have hmi : (b : Int) - (a : Int) = (m : Int) := by omega
 have htd : ((m : Int) - 1).tdiv 2 = (k0 : Int) - 1 := by {
 have := half_start hab
 rw [hmi, ← hm] at this
 rw [this, hk0]
 }
 have hk0m : k0 ≤ m + 1 := by omega
 have hkm : k0 ≤ m ∨ m = 0 := by omega
 have HE := Lib.hid (show heapSort ltInt d a b = heapPop ltInt a m (heapBuild ltInt m a k0 d) by unfold heapSort; rw [← hm, ← hk0])
 have ham : a + m ≤ n := by omega
 clear hm hk0
 have HS := Lib.hid h; clear h
 go_enter Tryz.func214, Tryz.ntmps214
 go_wp2
 go_loopw [9] (fun vi wr => ∃ (k : Nat) (dk : Array Int), vi = .int .i64 ((k : Int) - 1) ∧ k ≤ k0 ∧ dk.size = n ∧ Hid (SR w wr blk off dk) ∧ Hid (heapBuild ltInt m a k dk = heapBuild ltInt m a k0 d)) (fun vi _ => (intOf vi + 1).toNat)
 case atStart => exact ⟨k0, d, rfl, Nat.le_refl _, hn, HS, Lib.hid rfl⟩
 case round =>
  clear HS
  obtain ⟨k, dk, rfl, hk, hsk, HS, HB⟩ := hrel
  cases k with
  | succ k => {
  have e1 : ((k + 1 : Nat) : Int) - 1 = (k : Int) := by omega
  rw [e1]
  have hd : decide ((k : Int) ≥ 0) = true := decide_eq_true (by omega)
  have hkm2 : k ≤ m := by omega
  have HC := Lib.hid (sift_u (cap := cap) HS.out hsk hkm2 ham hsz)
  go_wp2_with fail
  refine HC.out.mono ?_
  rintro _ w2 ⟨rfl, h2⟩
  have HS2 := Lib.hid h2; clear h2
  go_wp2
  go_roundw
  case rel => exact ⟨k, _, rfl, by omega, by rw [size_siftDown _ _ _ (m - k) _ _ (Nat.le_refl _)]; exact hsk, HS2, Lib.hid (by rw [← HB.out]; rfl)⟩
  case measure => simp [intOf]
  }
  | zero => {
  rw [show (((0 : Nat) : Int) - 1) = -1 from rfl]
  have HB2 := Lib.hid (show dk = heapBuild ltInt m a k0 d from HB.out)
  go_wp2
  go_loopw [10] (fun vi wr => ∃ (k : Nat) (dj : Array Int), vi = .int .i64 ((k : Int) - 1) ∧ k ≤ m ∧ dj.size = n ∧ Hid (SR w wr blk off dj) ∧ Hid (heapPop ltInt a k dj = heapPop ltInt a m dk)) (fun vi _ => (intOf vi + 1).toNat)
  case atStart => exact ⟨m, dk, rfl, Nat.le_refl _, hsk, HS, Lib.hid rfl⟩
  case round =>
   clear HS
   obtain ⟨k, dj, rfl, hk, hsj, HS, HP⟩ := hrel
   cases k with
   | succ k => {
   have e1 : ((k + 1 : Nat) : Int) - 1 = (k : Int) := by omega
   rw [e1]
   have hd : decide ((k : Int) ≥ 0) = true := decide_eq_true (by omega)
   obtain ⟨p, hp⟩ : ∃ p : Nat, p = a + k := ⟨_, rfl⟩
   have wp : IntKind.i64.wrap ((a : Int) + k) = (p : Int) := wrapN (by omega) (by omega)
   obtain ⟨G, hG⟩ : ∃ G : Nat → Int, ∀ t, dj[t]! = G t := ⟨fun t => dj[t]!, fun _ => rfl⟩
   have ca : wr.cell? ⟨blk, off + a, none⟩ = some (.int .u64 (G a)) := by rw [HS.out.cell (by omega), hG]
   have fa : wr.frozen? ⟨blk, off + a, none⟩ = false := HS.out.frozen _
   have an : (a : Int) < n := by omega
   have hsw : SR w ((wr.setCell ⟨blk, off + a, none⟩ (.int .u64 (G p))).setCell ⟨blk, off + p, none⟩ (.int .u64 (G a))).drew blk off (swp dj a p) := by {
   have := HS.out.swapD (i := a) (j := p) (by omega) (by omega)
   rw [hG, hG] at this
   exact this
   }
   have HSw := Lib.hid hsw; clear hsw
   have hkm2 : 0 ≤ k := by omega
   have hak : a + k ≤ n := by omega
   have HC := Lib.hid (fun (w2 : World) (h : SR w w2 blk off (swp dj a p)) => sift_u (cap := cap) (lo := 0) h (by rw [size_swp]; exact hsj) hkm2 hak hsz)
   have HP2 := Lib.hid (show heapPop ltInt a k (siftDown ltInt k a 0 (swp dj a p)) = heapPop ltInt a m dk by rw [← HP.out, hp]; rfl)
   by_cases hk0 : k = 0
   {
   subst hk0
   obtain rfl : p = a := by omega
   clear hp
   go_wp2
   go_region
   all_goals go_wp2_with fail
   refine (HC.out _ (HSw.out)).mono ?_
   rintro _ w2 ⟨rfl, h2⟩
   have HS2 := Lib.hid h2; clear h2
   go_wp2
   go_roundw
   case rel => exact ⟨0, _, rfl, by omega, by rw [size_siftDown _ _ _ 0 _ _ (Nat.le_refl _), size_swp]; exact hsj, HS2, HP2⟩
   case measure => simp [intOf]
   }
   {
   have ne1 : a ≠ p := by omega
   have ne2 : p ≠ a := by omega
   have cp : wr.cell? ⟨blk, off + p, none⟩ = some (.int .u64 (G p)) := by rw [HS.out.cell (by omega), hG]
   have fp : wr.frozen? ⟨blk, off + p, none⟩ = false := HS.out.frozen _
   have pn : (p : Int) < n := by omega
   clear hp
   go_wp2
   go_region
   all_goals go_wp2_with fail
   refine (HC.out _ (HSw.out)).mono ?_
   rintro _ w2 ⟨rfl, h2⟩
   have HS2 := Lib.hid h2; clear h2
   go_wp2
   go_roundw
   case rel => exact ⟨k, _, rfl, by omega, by rw [size_siftDown _ _ _ (k - 0) _ _ (Nat.le_refl _), size_swp]; exact hsj, HS2, HP2⟩
   case measure => simp [intOf]
   }
   }
   | zero => {
   rw [show (((0 : Nat) : Int) - 1) = -1 from rfl]
   go_wp2
   go_end0
   exact ⟨rfl, by rw [HE.out, ← HB2.out, ← HP.out]; exact HS.out⟩
   }
  }
theorem rev_u {w wr : World} {blk off cap a b n : Nat} {d : Array Int} (h : SR w wr blk off d) (hn : d.size = n) (hab : a ≤ b) (hb : b ≤ n) (hsz : n < 4611686018427387904) :
    Calls Tryz.prog 217 #[.slice (some ⟨blk, off, none⟩) n cap, .int .i64 a, .int .i64 b] wr fun e w' => e = .returned (.tuple #[]) ∧ SR w w' blk off (reverseRange d a b) := by
 have HS := Lib.hid h; clear h
 go_enter Tryz.func217, Tryz.ntmps217
 go_wp2
 go_loopw [6, 7] (fun vi vj wr => ∃ (i : Nat) (j : Int) (dk : Array Int), vi = .int .i64 i ∧ vj = .int .i64 j ∧ a ≤ i ∧ -1 ≤ j ∧ j < b ∧ (i : Int) ≤ b ∧ dk.size = n ∧ Hid (SR w wr blk off dk) ∧ Hid (reverseLoop i j.toNat dk = reverseRange d a b)) (fun vi vj _ => (intOf vj - intOf vi).toNat)
 case atStart => exact ⟨a, (b : Int) - 1, d, rfl, rfl, Nat.le_refl _, by omega, by omega, by omega, hn, HS, Lib.hid (by unfold reverseRange; congr 1; omega)⟩
 case round =>
  clear HS
  obtain ⟨i, j, dk, rfl, rfl, hai, hj1, hjb, hib, hsk, HS, HR⟩ := hrel
  by_cases hlt : (i : Int) < j
  {
  obtain ⟨j, rfl⟩ : ∃ k : Nat, j = k := ⟨j.toNat, by omega⟩
  have ne1 : i ≠ j := by omega
  have ne2 : j ≠ i := by omega
  obtain ⟨G, hG⟩ : ∃ G : Nat → Int, ∀ t, dk[t]! = G t := ⟨fun t => dk[t]!, fun _ => rfl⟩
  have ci : wr.cell? ⟨blk, off + i, none⟩ = some (.int .u64 (G i)) := by rw [HS.out.cell (by omega), hG]
  have cj : wr.cell? ⟨blk, off + j, none⟩ = some (.int .u64 (G j)) := by rw [HS.out.cell (by omega), hG]
  have fi : wr.frozen? ⟨blk, off + i, none⟩ = false := HS.out.frozen _
  have fj : wr.frozen? ⟨blk, off + j, none⟩ = false := HS.out.frozen _
  have i_n : (i : Int) < n := by omega
  have j_n : (j : Int) < n := by omega
  have hsw : SR w ((wr.setCell ⟨blk, off + i, none⟩ (.int .u64 (G j))).setCell ⟨blk, off + j, none⟩ (.int .u64 (G i))).drew blk off (swp dk i j) := by {
  have := HS.out.swapD (i := i) (j := j) (by omega) (by omega)
  rw [hG, hG] at this
  exact this
  }
  have HSw := Lib.hid hsw; clear hsw
  have HR2 := Lib.hid (show reverseLoop (i + 1) (j - 1) (swp dk i j) = reverseRange d a b by rw [← HR.out, reverseLoop.eq_1 i _ dk, if_pos (by omega)]; simp)
  go_wp2
  go_region
  all_goals go_wp2
  go_roundw
  case rel => exact ⟨i + 1, (j : Int) - 1, _, by go_num, rfl, by omega, by omega, by omega, by omega, by rw [size_swp]; exact hsk, Lib.hid (HSw.out), Lib.hid (by rw [← HR2.out]; congr 1; omega)⟩
  case measure => simp [intOf]; omega
  }
  {
  go_wp2
  go_end0
  refine ⟨rfl, ?_⟩
  rw [← HR.out, reverseLoop.eq_1, if_neg (by omega)]
  exact HS.out
  }
theorem less_is {x y : Int} {r : Bool} (h : ltInt x y = r) (w : World) : Calls Tryz.prog 219 #[.int .u64 x, .int .u64 y] w fun e w' => e = .returned (.bool r) ∧ w' = w := h ▸ less_u x y w
structure SM (w wr : World) (blk off : Nat) (d : Array Int) (sb s : Nat) : Prop where
  sr : SR w wr blk off d
  cnt : Blk wr sb 3 [.int .i64 s]
  ne : sb ≠ blk
  new : w.heap.size ≤ sb
section
variable {w wr : World} {blk off : Nat} {d : Array Int} {sb s : Nat}
theorem SM.drewN (h : SM w wr blk off d sb s) (q : Nat) : SM w (wr.drewN q) blk off d sb s := ⟨h.sr.drewN q, h.cnt.drewN q, h.ne, h.new⟩
theorem SM.bump (h : SM w wr blk off d sb s) (t : Nat) : SM w (wr.setCell ⟨sb, 0, none⟩ (.int .i64 t)) blk off d sb t := ⟨h.sr.other _ h.new h.ne, h.cnt.set 0 _, h.ne, h.new⟩
theorem order2_u {cap a b n : Nat} (h : SM w wr blk off d sb s) (hn : d.size = n) (ha : a < n) (hb : b < n) (hs : s < 1000) :
    Calls Tryz.prog 232 #[.slice (some ⟨blk, off, none⟩) n cap, .int .i64 a, .int .i64 b, .pointer (some ⟨sb, 0, none⟩)] wr fun e w' =>
      e = .returned (.tuple #[.int .i64 (order2 ltInt d a b s).1, .int .i64 (order2 ltInt d a b s).2.1]) ∧ SM w w' blk off d sb (order2 ltInt d a b s).2.2 := by
 obtain ⟨G, hG⟩ : ∃ G : Nat → Int, ∀ t, d[t]! = G t := ⟨fun t => d[t]!, fun _ => rfl⟩
 have ca : wr.cell? ⟨blk, off + a, none⟩ = some (.int .u64 (G a)) := by rw [h.sr.cell (by omega), hG]
 have cb : wr.cell? ⟨blk, off + b, none⟩ = some (.int .u64 (G b)) := by rw [h.sr.cell (by omega), hG]
 have c0 := h.cnt.cell 0
 have f0 := h.cnt.frozen 0
 simp only [List.getElem?_cons_zero] at c0
 have an : (a : Int) < n := by omega
 have bn : (b : Int) < n := by omega
 have HS := Lib.hid h; clear h
 cases hl : ltInt (G b) (G a) with
 | true => {
 have e1 : order2 ltInt d a b s = (b, a, s + 1) := by unfold order2; rw [hG, hG, hl]; rfl
 rw [e1]; clear e1
 have HG := Lib.hid hG; clear hG
 go_enter Tryz.func232, Tryz.ntmps232
 go_wp2
 go_quiet (first | (go_at_call 219; refine Calls.quiet_of_same (less_is hl _)))
 go_wp2
 go_ret2
 exact ⟨rfl, (HS.out.drewN nq).bump (s + 1)⟩
 }
 | false => {
 have e1 : order2 ltInt d a b s = (a, b, s) := by unfold order2; rw [hG, hG, hl]; rfl
 rw [e1]; clear e1
 have HG := Lib.hid hG; clear hG
 go_enter Tryz.func232, Tryz.ntmps232
 go_wp2
 go_quiet (first | (go_at_call 219; refine Calls.quiet_of_same (less_is hl _)))
 go_wp2
 go_ret2
 exact ⟨rfl, HS.out.drewN nq⟩
 }
theorem median_u {cap a b c n : Nat} (h : SM w wr blk off d sb s) (hn : d.size = n) (ha : a < n) (hb : b < n) (hc : c < n) (hs : s < 900) :
    Calls Tryz.prog 228 #[.slice (some ⟨blk, off, none⟩) n cap, .int .i64 a, .int .i64 b, .int .i64 c, .pointer (some ⟨sb, 0, none⟩)] wr fun e w' =>
      e = .returned (.int .i64 (median ltInt d a b c s).1) ∧ SM w w' blk off d sb (median ltInt d a b c s).2 := by
 have e0 : median ltInt d a b c s = ((order2 ltInt d (order2 ltInt d a b s).1 (order2 ltInt d (order2 ltInt d a b s).2.1 c (order2 ltInt d a b s).2.2).1 (order2 ltInt d (order2 ltInt d a b s).2.1 c (order2 ltInt d a b s).2.2).2.2).2.1, (order2 ltInt d (order2 ltInt d a b s).1 (order2 ltInt d (order2 ltInt d a b s).2.1 c (order2 ltInt d a b s).2.2).1 (order2 ltInt d (order2 ltInt d a b s).2.1 c (order2 ltInt d a b s).2.2).2.2).2.2) := rfl
 rw [e0]; clear e0
 have H1 := Lib.hid (order2_u (cap := cap) h hn ha hb (by omega))
 obtain ⟨a1, a2⟩ := order2_lt d s ha hb
 have s1 := order2_swaps d a b s
 generalize order2 ltInt d a b s = r1 at *
 have H2 := Lib.hid (fun (w2 : World) (h : SM w w2 blk off d sb r1.2.2) => order2_u (cap := cap) h hn a2 hc (by omega))
 obtain ⟨b1, b2⟩ := order2_lt d r1.2.2 a2 hc
 have s2 := order2_swaps d r1.2.1 c r1.2.2
 generalize order2 ltInt d r1.2.1 c r1.2.2 = r2 at *
 have H3 := Lib.hid (fun (w2 : World) (h : SM w w2 blk off d sb r2.2.2) => order2_u (cap := cap) h hn a1 b1 (by omega))
 generalize order2 ltInt d r1.1 r2.1 r2.2.2 = r3 at *
 obtain ⟨x1, y1, z1⟩ := r1
 obtain ⟨x2, y2, z2⟩ := r2
 obtain ⟨x3, y3, z3⟩ := r3
 clear h
 go_enter Tryz.func228, Tryz.ntmps228
 go_wp2_with fail
 refine H1.out.mono ?_
 rintro _ w1 ⟨rfl, h1⟩
 have K1 := Lib.hid h1; clear h1
 go_wp2_with fail
 refine (H2.out _ K1.out).mono ?_
 rintro _ w2 ⟨rfl, h2⟩
 have K2 := Lib.hid h2; clear h2
 go_wp2_with fail
 refine (H3.out _ K2.out).mono ?_
 rintro _ w3 ⟨rfl, h3⟩
 have K3 := Lib.hid h3; clear h3
 go_wp2
 go_ret
 exact ⟨rfl, K3.out⟩
theorem median_bounds (d : Array Int) {a b c n : Nat} (s : Nat) (ha : a < n) (hb : b < n) (hc : c < n) : (median ltInt d a b c s).1 < n ∧ (median ltInt d a b c s).2 ≤ s + 3 := by
 have e0 : median ltInt d a b c s = ((order2 ltInt d (order2 ltInt d a b s).1 (order2 ltInt d (order2 ltInt d a b s).2.1 c (order2 ltInt d a b s).2.2).1 (order2 ltInt d (order2 ltInt d a b s).2.1 c (order2 ltInt d a b s).2.2).2.2).2.1, (order2 ltInt d (order2 ltInt d a b s).1 (order2 ltInt d (order2 ltInt d a b s).2.1 c (order2 ltInt d a b s).2.2).1 (order2 ltInt d (order2 ltInt d a b s).2.1 c (order2 ltInt d a b s).2.2).2.2).2.2) := rfl
 rw [e0]
 obtain ⟨a1, a2⟩ := order2_lt d s ha hb
 have s1 := order2_swaps d a b s
 generalize order2 ltInt d a b s = r1 at *
 obtain ⟨b1, b2⟩ := order2_lt d r1.2.2 a2 hc
 have s2 := order2_swaps d r1.2.1 c r1.2.2
 generalize order2 ltInt d r1.2.1 c r1.2.2 = r2 at *
 obtain ⟨c1, c2⟩ := order2_lt d r2.2.2 a1 b1
 have s3 := order2_swaps d r1.1 r2.1 r2.2.2
 dsimp only
 omega
theorem adj_u {cap a n : Nat} (h : SM w wr blk off d sb s) (hn : d.size = n) (ha0 : 1 ≤ a) (ha : a + 1 < n) (hs : s < 900) (hsz : n < 4611686018427387904) :
    Calls Tryz.prog 227 #[.slice (some ⟨blk, off, none⟩) n cap, .int .i64 a, .pointer (some ⟨sb, 0, none⟩)] wr fun e w' =>
      e = .returned (.int .i64 (medianAdjacent ltInt d a s).1) ∧ SM w w' blk off d sb (medianAdjacent ltInt d a s).2 := by
 have H1 := Lib.hid (median_u (cap := cap) h hn (show a - 1 < n by omega) (show a < n by omega) ha hs); clear h
 have e1 : (a : Int) - 1 = ((a - 1 : Nat) : Int) := by omega
 have e2 : (a : Int) + 1 = ((a + 1 : Nat) : Int) := by omega
 have e3 : medianAdjacent ltInt d a s = median ltInt d (a - 1) a (a + 1) s := rfl
 rw [e3]; clear e3
 generalize median ltInt d (a - 1) a (a + 1) s = r at *
 generalize a - 1 = a0 at *
 generalize a + 1 = a1 at *
 go_enter Tryz.func227, Tryz.ntmps227
 go_wp2_with fail
 refine H1.out.mono ?_
 rintro _ w1 ⟨rfl, h1⟩
 have K1 := Lib.hid h1; clear h1
 go_wp2
 go_ret
 exact ⟨rfl, K1.out⟩
theorem adj_bounds (d : Array Int) {a n : Nat} (s : Nat) (ha : a + 1 < n) : (medianAdjacent ltInt d a s).1 < n ∧ (medianAdjacent ltInt d a s).2 ≤ s + 3 :=
  median_bounds d s (show a - 1 < n by omega) (show a < n by omega) ha
end
theorem choose_small (d : Array Int) {a b q : Nat} (hq : q = (b - a) / 4) (h : ¬ 8 ≤ b - a) : choosePivot ltInt d a b = (a + q * 2, .increasing) := by
 subst hq; unfold choosePivot; simp only [ge_iff_le]; rw [if_neg h]; rfl
theorem choose_mid (d : Array Int) {a b q : Nat} (hq : q = (b - a) / 4) (h : 8 ≤ b - a) (h2 : ¬ 50 ≤ b - a) : choosePivot ltInt d a b =
    ((median ltInt d (a + q * 1) (a + q * 2) (a + q * 3) 0).1, if (median ltInt d (a + q * 1) (a + q * 2) (a + q * 3) 0).2 = 0 then .increasing else if (median ltInt d (a + q * 1) (a + q * 2) (a + q * 3) 0).2 = 12 then .decreasing else .unknown) := by
 subst hq; unfold choosePivot; simp only [ge_iff_le]; rw [if_pos h, if_neg h2]
def big (d : Array Int) (i j k : Nat) : Nat × Nat :=
  median ltInt d (medianAdjacent ltInt d i 0).1 (medianAdjacent ltInt d j (medianAdjacent ltInt d i 0).2).1 (medianAdjacent ltInt d k (medianAdjacent ltInt d j (medianAdjacent ltInt d i 0).2).2).1 (medianAdjacent ltInt d k (medianAdjacent ltInt d j (medianAdjacent ltInt d i 0).2).2).2
theorem choose_big (d : Array Int) {a b q : Nat} (hq : q = (b - a) / 4) (h : 8 ≤ b - a) (h2 : 50 ≤ b - a) : choosePivot ltInt d a b =
    ((big d (a + q * 1) (a + q * 2) (a + q * 3)).1, if (big d (a + q * 1) (a + q * 2) (a + q * 3)).2 = 0 then .increasing else if (big d (a + q * 1) (a + q * 2) (a + q * 3)).2 = 12 then .decreasing else .unknown) := by
 subst hq; unfold choosePivot big; simp only [ge_iff_le]; rw [if_pos h, if_pos h2]
theorem pivot_u {w wr : World} {blk off : Nat} {d : Array Int} {cap a b n : Nat} (h : SR w wr blk off d) (hn : d.size = n) (hab : a < b) (hb : b ≤ n) (hsz : n < 4611686018427387904) :
    Calls Tryz.prog 216 #[.slice (some ⟨blk, off, none⟩) n cap, .int .i64 a, .int .i64 b] wr fun e w' =>
      e = .returned (.tuple #[.int .i64 (choosePivot ltInt d a b).1, .int .i64 (hintCode (choosePivot ltInt d a b).2)]) ∧ SR w w' blk off d := by
 obtain ⟨m, hm⟩ : ∃ m : Nat, m = b - a := ⟨_, rfl⟩
 obtain ⟨q, hq⟩ : ∃ q : Nat, q = (b - a) / 4 := ⟨_, rfl⟩
 have hmi : (b : Int) - (a : Int) = (m : Int) := by omega
 have hqi : ((m : Int)).tdiv 4 = (q : Int) := by rw [Int.tdiv_eq_ediv_of_nonneg (by omega)]; omega
 have hsm0 : SM w (wr.alloc (.cells #[.int .i64 0] 3)) blk off d wr.heap.size 0 :=
   ⟨h.alloc _, Blk.new wr [.int .i64 0] 3, by have := h.lt; omega, h.fr.size⟩
 have K0 := Lib.hid hsm0; clear hsm0
 have HQ := Lib.hid hq
 have hqb : 8 ≤ m → a + q * 3 + 1 < b := by omega
 have hq2 : 8 ≤ m → 2 ≤ q := by omega
 have HM := Lib.hid hm
 obtain ⟨i, hi⟩ : ∃ i : Nat, i = a + q * 1 := ⟨_, rfl⟩
 obtain ⟨j, hj⟩ : ∃ j : Nat, j = a + q * 2 := ⟨_, rfl⟩
 obtain ⟨k, hk⟩ : ∃ k : Nat, k = a + q * 3 := ⟨_, rfl⟩
 have hii : (a : Int) + q = (i : Int) := by omega
 have hji : (a : Int) + q * 2 = (j : Int) := by omega
 have hki : (a : Int) + q * 3 = (k : Int) := by omega
 have hq3 : a + q * 3 ≤ n := by omega
 by_cases h8 : 8 ≤ m
 {
 by_cases h50 : 50 ≤ m
 {
 have hres := choose_big d HQ.out (by omega) (by omega)
 rw [← hi, ← hj, ← hk] at hres
 have b1 : 1 ≤ i ∧ i + 1 < n ∧ 1 ≤ j ∧ j + 1 < n ∧ 1 ≤ k ∧ k + 1 < n := by have := hq2 h8; have := hqb h8; omega
 have A1 := Lib.hid (adj_u (cap := cap) K0.out hn b1.1 b1.2.1 (by omega) hsz)
 have B1 := adj_bounds d 0 b1.2.1
 unfold big at hres
 generalize medianAdjacent ltInt d i 0 = r1 at *
 have A2 := Lib.hid (fun (w2 : World) (h : SM w w2 blk off d wr.heap.size r1.2) => adj_u (cap := cap) h hn b1.2.2.1 b1.2.2.2.1 (by omega) hsz)
 have B2 := adj_bounds d r1.2 b1.2.2.2.1
 generalize medianAdjacent ltInt d j r1.2 = r2 at *
 have A3 := Lib.hid (fun (w2 : World) (h : SM w w2 blk off d wr.heap.size r2.2) => adj_u (cap := cap) h hn b1.2.2.2.2.1 b1.2.2.2.2.2 (by omega) hsz)
 have B3 := adj_bounds d r2.2 b1.2.2.2.2.2
 generalize medianAdjacent ltInt d k r2.2 = r3 at *
 have A4 := Lib.hid (fun (w2 : World) (h : SM w w2 blk off d wr.heap.size r3.2) => median_u (cap := cap) h hn B1.1 B2.1 B3.1 (by omega))
 generalize median ltInt d r1.1 r2.1 r3.1 r3.2 = r4 at *
 obtain ⟨p1, s1⟩ := r1
 obtain ⟨p2, s2⟩ := r2
 obtain ⟨p3, s3⟩ := r3
 obtain ⟨jj, ss⟩ := r4
 have hres1 : ss = 0 → choosePivot ltInt d a b = (jj, .increasing) := fun e => by rw [hres]; simp [e]
 have hres2 : ss ≠ 0 → ss = 12 → choosePivot ltInt d a b = (jj, .decreasing) := fun e e2 => by rw [hres]; simp [e2]
 have hres3 : ss ≠ 0 → ss ≠ 12 → choosePivot ltInt d a b = (jj, .unknown) := fun e e2 => by rw [hres]; simp [e, e2]
 have hsw : ss = 0 ∨ (ss ≠ 0 ∧ ss = 12) ∨ (ss ≠ 0 ∧ ss ≠ 12) := by omega
 clear hres hq hi hj hk hm B1 B2 B3 b1 hq2 hqb h
 go_enter Tryz.func216, Tryz.ntmps216
 go_wp2_with fail
 refine A1.out.mono ?_
 rintro _ w1 ⟨rfl, k1⟩
 have K1 := Lib.hid k1; clear k1 A1
 go_wp2_with fail
 refine (A2.out _ K1.out).mono ?_
 rintro _ w2 ⟨rfl, k2⟩
 have K2 := Lib.hid k2; clear k2 A2
 go_wp2_with fail
 refine (A3.out _ K2.out).mono ?_
 rintro _ w3 ⟨rfl, k3⟩
 have K3 := Lib.hid k3; clear k3 A3
 go_wp2_with fail
 refine (A4.out _ K3.out).mono ?_
 rintro _ w4 ⟨rfl, k4⟩
 have K4 := Lib.hid k4; clear k4 A4
 have c0 := K4.out.cnt.cell 0
 simp only [List.getElem?_cons_zero] at c0
 rcases hsw with h0 | ⟨h0, h12⟩ | ⟨h0, h12⟩
 {
 have t0 : ((ss : Int) == 0) = true := beq_iff_eq.2 (by omega)
 have HH := Lib.hid (hres1 h0); clear h0 hres1 hres2 hres3
 go_wp2
 go_ret2
 exact ⟨by rw [HH.out]; rfl, K4.out.sr⟩
 }
 {
 have t0 : ((ss : Int) == 0) = false := beq_eq_false_iff_ne.2 (by omega)
 have t1 : ((ss : Int) == 12) = true := beq_iff_eq.2 (by omega)
 have HH := Lib.hid (hres2 h0 h12); clear h0 h12 hres1 hres2 hres3
 go_wp2
 go_ret2
 exact ⟨by rw [HH.out]; rfl, K4.out.sr⟩
 }
 {
 have t0 : ((ss : Int) == 0) = false := beq_eq_false_iff_ne.2 (by omega)
 have t1 : ((ss : Int) == 12) = false := beq_eq_false_iff_ne.2 (by omega)
 have HH := Lib.hid (hres3 h0 h12); clear h0 h12 hres1 hres2 hres3
 go_wp2
 go_ret2
 exact ⟨by rw [HH.out]; rfl, K4.out.sr⟩
 }
 }
 {
 have hres := choose_mid d HQ.out (by omega) (by omega)
 rw [← hi, ← hj, ← hk] at hres
 have b1 : i < n ∧ j < n ∧ k < n := by have := hqb h8; omega
 have A4 := Lib.hid (median_u (cap := cap) K0.out hn b1.1 b1.2.1 b1.2.2 (by omega))
 generalize median ltInt d i j k 0 = r4 at *
 obtain ⟨jj, ss⟩ := r4
 have hres1 : ss = 0 → choosePivot ltInt d a b = (jj, .increasing) := fun e => by rw [hres]; simp [e]
 have hres2 : ss ≠ 0 → ss = 12 → choosePivot ltInt d a b = (jj, .decreasing) := fun e e2 => by rw [hres]; simp [e2]
 have hres3 : ss ≠ 0 → ss ≠ 12 → choosePivot ltInt d a b = (jj, .unknown) := fun e e2 => by rw [hres]; simp [e, e2]
 have hsw : ss = 0 ∨ (ss ≠ 0 ∧ ss = 12) ∨ (ss ≠ 0 ∧ ss ≠ 12) := by omega
 clear hres hq hi hj hk hm b1 hq2 hqb h
 go_enter Tryz.func216, Tryz.ntmps216
 go_wp2_with fail
 refine A4.out.mono ?_
 rintro _ w4 ⟨rfl, k4⟩
 have K4 := Lib.hid k4; clear k4 A4
 have c0 := K4.out.cnt.cell 0
 simp only [List.getElem?_cons_zero] at c0
 rcases hsw with h0 | ⟨h0, h12⟩ | ⟨h0, h12⟩
 {
 have t0 : ((ss : Int) == 0) = true := beq_iff_eq.2 (by omega)
 have HH := Lib.hid (hres1 h0); clear h0 hres1 hres2 hres3
 go_wp2
 go_ret2
 exact ⟨by rw [HH.out]; rfl, K4.out.sr⟩
 }
 {
 have t0 : ((ss : Int) == 0) = false := beq_eq_false_iff_ne.2 (by omega)
 have t1 : ((ss : Int) == 12) = true := beq_iff_eq.2 (by omega)
 have HH := Lib.hid (hres2 h0 h12); clear h0 h12 hres1 hres2 hres3
 go_wp2
 go_ret2
 exact ⟨by rw [HH.out]; rfl, K4.out.sr⟩
 }
 {
 have t0 : ((ss : Int) == 0) = false := beq_eq_false_iff_ne.2 (by omega)
 have t1 : ((ss : Int) == 12) = false := beq_eq_false_iff_ne.2 (by omega)
 have HH := Lib.hid (hres3 h0 h12); clear h0 h12 hres1 hres2 hres3
 go_wp2
 go_ret2
 exact ⟨by rw [HH.out]; rfl, K4.out.sr⟩
 }
 }
 }
 {
 have hres := choose_small d HQ.out (by omega)
 rw [← hj] at hres
 rw [hres]
 have c0 := K0.out.cnt.cell 0
 simp only [List.getElem?_cons_zero] at c0
 clear hres hq hi hj hk hm hq2 hqb h
 go_enter Tryz.func216, Tryz.ntmps216
 go_wp2
 go_ret2
 exact ⟨rfl, K0.out.sr⟩
 }
def Tryz.laysLen_ren : Go.Shelf.Ren := ⟨fun | 125 => 146 | 128 => 190 | 129 => 191 | n => n, fun | 46 => 207 | 3 => 3 | 51 => 256 | 53 => 26 | 4 => 4 | 5 => 5 | 9 => 9 | n => n, fun | n => n⟩
theorem Tryz.laysLen : Go.Proofs.Lays.n125 Tryz.prog Tryz.laysLen_ren := {
  mixed := by kernel_rfl
  f125 := Tryz.func146.trans (congrArg some (by kernel_rfl))
  f128 := Tryz.func190.trans (congrArg some (by kernel_rfl))
  f129 := Tryz.func191.trans (congrArg some (by kernel_rfl))
  t3 := Tryz.underlying3
  a3 := Tryz.isAgg3
  z3 := Tryz.sizeOf3
  v3 := Tryz.zeroValue3
  t4 := Tryz.underlying4
  a4 := Tryz.isAgg4
  z4 := Tryz.sizeOf4
  v4 := Tryz.zeroValue4
  t5 := Tryz.underlying5
  a5 := Tryz.isAgg5
  z5 := Tryz.sizeOf5
  v5 := Tryz.zeroValue5
  t9 := Tryz.underlying9
  a9 := Tryz.isAgg9
  z9 := Tryz.sizeOf9
  v9 := Tryz.zeroValue9
  t46 := Tryz.underlying207
  a46 := Tryz.isAgg207
  z46 := Tryz.sizeOf207
  v46 := Tryz.zeroValue207
  t51 := Tryz.underlying256
  a51 := Tryz.isAgg256
  z51 := Tryz.sizeOf256
  v51 := Tryz.zeroValue256
  t53 := Tryz.underlying26
  a53 := Tryz.isAgg26
  z53 := Tryz.sizeOf26
  v53 := Tryz.zeroValue26 }
theorem len_u (n : Nat) (hn : n < 4611686018427387904) (w : World) : Calls Tryz.prog 146 #[.int .u64 (n : Int)] w fun e w' => e = .returned (.int .i64 (bitsLen n : Nat)) ∧ w' = w := by
 have h := Any.bits_Len Tryz.laysLen (n : Int) w (by omega) (by omega)
 rwa [Int.toNat_natCast, bitLen_eq _ (by omega)] at h
theorem pow_u (n : Nat) (hn : n < 4611686018427387904) (w : World) :
    Calls Tryz.prog 209 #[.int .i64 n] w fun e w' => e = .returned (.int .u64 ((1 <<< bitsLen n : Nat) : Int)) ∧ w' = w := by
 have hk : bitsLen n ≤ 62 := (bitsLen_le_iff n 62).2 (by omega)
 have hp := wrap_two_pow (bitsLen n) hk
 have HL := Lib.hid (len_u n hn w)
 generalize (1 <<< bitsLen n : Nat) = M at *
 generalize bitsLen n = k at *
 go_enter Tryz.func209, Tryz.ntmps209
 go_wp2_with (first | (go_at_call 146; refine HL.out.mono ?_; rintro e w' ⟨rfl, rfl⟩))
 go_ret
 exact ⟨rfl, rfl⟩
structure SX (w wr : World) (blk off : Nat) (d : Array Int) (rb R : Nat) : Prop where
  sr : SR w wr blk off d
  cnt : Blk wr rb 263 [.int .u64 R]
  ne : rb ≠ blk
  new : w.heap.size ≤ rb
section
variable {w wr : World} {blk off : Nat} {d : Array Int} {rb R : Nat}
theorem SX.drewN (h : SX w wr blk off d rb R) (q : Nat) : SX w (wr.drewN q) blk off d rb R := ⟨h.sr.drewN q, h.cnt.drewN q, h.ne, h.new⟩
theorem SX.bump (h : SX w wr blk off d rb R) (t : Nat) : SX w (wr.setCell ⟨rb, 0, none⟩ (.int .u64 t)) blk off d rb t := ⟨h.sr.other _ h.new h.ne, h.cnt.set 0 _, h.ne, h.new⟩
theorem SX.swapD (h : SX w wr blk off d rb R) {i j : Nat} (hi : i < d.size) (hj : j < d.size) :
    SX w ((wr.setCell ⟨blk, off + i, none⟩ (.int .u64 d[j]!)).setCell ⟨blk, off + j, none⟩ (.int .u64 d[i]!)).drew blk off (swp d i j) rb R :=
  ⟨h.sr.swapD hi hj, ((h.cnt.other _ _ h.ne).other _ _ h.ne).drewN 1, h.ne, h.new⟩
theorem next_u (h : SX w wr blk off d rb R) (hR : R < 18446744073709551616) :
    Calls Tryz.prog 210 #[.pointer (some ⟨rb, 0, none⟩)] wr fun e w' => e = .returned (.int .u64 (xorNextN R : Nat)) ∧ SX w w' blk off d rb (xorNextN R) := by
 obtain ⟨x, hx⟩ : ∃ x : Nat, x = R ^^^ (R * 8192 % 18446744073709551616) := ⟨_, rfl⟩
 obtain ⟨y, hy⟩ : ∃ y : Nat, y = x ^^^ (x / 128) := ⟨_, rfl⟩
 obtain ⟨z, hz⟩ : ∃ z : Nat, z = y ^^^ (y * 131072 % 18446744073709551616) := ⟨_, rfl⟩
 have lx : x < 18446744073709551616 := by rw [hx]; exact Nat.xor_lt_two_pow (n := 64) (by omega) (by omega)
 have ly : y < 18446744073709551616 := by rw [hy]; exact Nat.xor_lt_two_pow (n := 64) (by omega) (by omega)
 have q1 : bits .xor .u64 (R : Int) (IntKind.u64.wrap ((R : Int) * 8192)) = (x : Int) := by rw [IntKind.wrap_u64, show ((R : Int) * 8192 % 18446744073709551616) = ((R * 8192 % 18446744073709551616 : Nat) : Int) by omega, bits_xor_u64_nat _ _ hR (by omega), hx]
 have q2 : bits .xor .u64 (x : Int) ((x : Int) / 128) = (y : Int) := by rw [show ((x : Int) / 128) = ((x / 128 : Nat) : Int) by omega, bits_xor_u64_nat _ _ lx (by omega), hy]
 have q3 : bits .xor .u64 (y : Int) (IntKind.u64.wrap ((y : Int) * 131072)) = (z : Int) := by rw [IntKind.wrap_u64, show ((y : Int) * 131072 % 18446744073709551616) = ((y * 131072 % 18446744073709551616 : Nat) : Int) by omega, bits_xor_u64_nat _ _ ly (by omega), hz]
 have hv : xorNextN R = z := by unfold xorNextN; simp only []; rw [← hx, ← hy, ← hz]
 rw [hv]
 clear hx hy hz hv
 have c0 := h.cnt.cell 0
 have f0 := h.cnt.frozen 0
 simp only [List.getElem?_cons_zero] at c0
 have hss : ∀ v v', (wr.setCell ⟨rb, 0, none⟩ v).setCell ⟨rb, 0, none⟩ v' = wr.setCell ⟨rb, 0, none⟩ v' := setCell_setCell wr rb 0
 have HS := Lib.hid h; clear h
 go_enter Tryz.func210, Tryz.ntmps210
 go_wp2
 go_region
 all_goals go_wp2
 all_goals go_region
 all_goals go_wp2
 all_goals go_region
 all_goals go_wp2
 go_ret
 exact ⟨rfl, (HS.out.bump z).drewN 3⟩
end
theorem break_u {w wr : World} {blk off cap a b n : Nat} {d : Array Int} (h : SR w wr blk off d) (hn : d.size = n) (hab : a ≤ b) (hb : b ≤ n) (hsz : n < 4611686018427387904) :
    Calls Tryz.prog 215 #[.slice (some ⟨blk, off, none⟩) n cap, .int .i64 a, .int .i64 b] wr fun e w' => e = .returned (.tuple #[]) ∧ SR w w' blk off (breakPatterns d a b) := by
 obtain ⟨m, hm⟩ : ∃ m : Nat, m = b - a := ⟨_, rfl⟩
 have hmi : (b : Int) - (a : Int) = (m : Int) := by omega
 by_cases h8 : 8 ≤ m
 {
 obtain ⟨q, hq⟩ : ∃ q : Nat, q = m / 4 := ⟨_, rfl⟩
 have hqi : ((m : Int)).tdiv 4 = (q : Int) := by rw [Int.tdiv_eq_ediv_of_nonneg (by omega)]; omega
 obtain ⟨M, hM⟩ : ∃ M : Nat, M = 1 <<< bitsLen m := ⟨_, rfl⟩
 have hM1 : 1 ≤ M := by rw [hM, Nat.one_shiftLeft]; exact Nat.two_pow_pos _
 have hM2 : M ≤ 2 * m := by rw [hM, Nat.one_shiftLeft]; exact two_pow_bitsLen_le (by omega)
 have hNP : ∀ w, Calls Tryz.prog 209 #[.int .i64 (m : Int)] w fun e w' => e = .returned (.int .u64 (M : Int)) ∧ w' = w := by rw [hM]; exact fun w => pow_u m (by omega) w
 obtain ⟨i0, hi0⟩ : ∃ i0 : Nat, i0 = a + q * 2 - 1 := ⟨_, rfl⟩
 have HE := Lib.hid (show breakPatterns d a b = bpRest a m M i0 3 0 (UInt64.ofNat m, d) by
   rw [show b = a + m by omega, breakPatterns_eq d a m h8, hM, hi0, hq])
 have hsx : SX w (wr.alloc (.cells #[.int .u64 (m : Int)] 263)) blk off d wr.heap.size (UInt64.ofNat m).toNat := by {
 have e : (UInt64.ofNat m).toNat = m := by simp; omega
 rw [e]
 exact ⟨h.alloc _, Blk.new wr [.int .u64 (m : Int)] 263, by have := h.lt; omega, h.fr.size⟩
 }
 have HX := Lib.hid hsx; clear hsx
 have HNP := Lib.hid hNP; clear hNP
 have hi0i : (a : Int) + q * 2 - 1 = (i0 : Int) := by omega
 have hend : (a : Int) + q * 2 + 1 = (i0 : Int) + 2 := by omega
 have hamn : a + m ≤ n := by omega
 have hi0n : i0 + 3 ≤ a + m := by omega
 have hq2 : a + q * 2 + 1 ≤ n := by omega
 have ham0 : a ≤ i0 := by omega
 clear hM hm hq hi0 h
 go_enter Tryz.func215, Tryz.ntmps215
 go_wp2_with fail
 refine (HNP.out _).mono ?_
 rintro _ _ ⟨rfl, rfl⟩
 go_wp2
 go_loopw [9] (fun vi wr2 => ∃ (t : Nat) (r : UInt64) (dk : Array Int), vi = .int .i64 ((i0 + t : Nat) : Int) ∧ t ≤ 3 ∧ dk.size = n ∧ Hid (SX w wr2 blk off dk wr.heap.size r.toNat) ∧
   Hid (bpRest a m M i0 (3 - t) t (r, dk) = bpRest a m M i0 3 0 (UInt64.ofNat m, d))) (fun vi _ => i0 + 3 - (intOf vi).toNat)
 case atStart => exact ⟨0, UInt64.ofNat m, d, rfl, by omega, hn, HX, Lib.hid rfl⟩
 case round =>
  clear HX
  obtain ⟨t, r, dk, rfl, ht, hsk, HX, HR⟩ := hrel
  obtain ⟨it, hit⟩ : ∃ it : Nat, it = i0 + t := ⟨_, rfl⟩
  rw [← hit]
  by_cases ht3 : t < 3
  {
  have hd : decide ((it : Int) ≤ (i0 : Int) + 2) = true := decide_eq_true (by omega)
  obtain ⟨R', hR'⟩ : ∃ R' : Nat, R' = xorNextN r.toNat := ⟨_, rfl⟩
  have lR' : R' < 18446744073709551616 := by rw [hR']; exact xorNextN_lt _ r.toNat_lt
  have HNx := next_u HX.out r.toNat_lt
  rw [← hR'] at HNx
  have HNx := Lib.hid HNx
  obtain ⟨O, hO⟩ : ∃ O : Nat, O = R' &&& (M - 1) := ⟨_, rfl⟩
  have lO : O ≤ M - 1 := by rw [hO]; exact Nat.and_le_right
  have eAnd : bits .and .u64 (R' : Int) ((M : Int) - 1) = (O : Int) := by rw [show ((M : Int) - 1) = ((M - 1 : Nat) : Int) by omega, bits_and_u64_nat _ _ lR' (by omega), hO]
  have eR : R' = (xorNext r).toNat := by rw [hR', xorNext_toNat]
  have hOx : O = (xorNext r).toNat &&& (M - 1) := by rw [hO, eR]
  have hfin : ∃ o : Nat, o < m ∧ (if O ≥ m then O - m else O) = o := by {
  refine ⟨_, ?_, rfl⟩
  split <;> omega
  }
  obtain ⟨o, hom, hoe⟩ := hfin
  obtain ⟨p, hp⟩ : ∃ p : Nat, p = a + o := ⟨_, rfl⟩
  have wp : IntKind.i64.wrap ((a : Int) + o) = (p : Int) := wrapN (by omega) (by omega)
  have HRn := Lib.hid (show bpRest a m M i0 (3 - (t + 1)) (t + 1) (xorNext r, swp dk it p) = bpRest a m M i0 3 0 (UInt64.ofNat m, d) by
    rw [← HR.out, bp_step a m M i0 t r dk o ht3 (by rw [← hOx]; exact hoe), hit, hp])
  have HeR := Lib.hid eR
  have hpn : p < n := by omega
  have hitn : it < n := by omega
  have Hit := Lib.hid hit
  have hoc : (m ≤ O ∧ (O : Int) - m = (o : Int)) ∨ (¬ m ≤ O ∧ O = o) := by {
  by_cases hc : m ≤ O
  · rw [if_pos hc] at hoe; exact .inl ⟨hc, by omega⟩
  · rw [if_neg hc] at hoe; exact .inr ⟨hc, hoe⟩
  }
  clear hR' hO hOx eR hoe hp hit
  have pn : (p : Int) < n := by omega
  have itn : (it : Int) < n := by omega
  go_wp2_with fail
  refine HNx.out.mono ?_
  rintro _ w2 ⟨rfl, hX2⟩
  obtain ⟨G, hG⟩ : ∃ G : Nat → Int, ∀ x, dk[x]! = G x := ⟨fun x => dk[x]!, fun _ => rfl⟩
  have cp : w2.cell? ⟨blk, off + p, none⟩ = some (.int .u64 (G p)) := by rw [hX2.sr.cell (by omega), hG]
  have ci : w2.cell? ⟨blk, off + it, none⟩ = some (.int .u64 (G it)) := by rw [hX2.sr.cell (by omega), hG]
  have fp : w2.frozen? ⟨blk, off + p, none⟩ = false := hX2.sr.frozen _
  have fi : w2.frozen? ⟨blk, off + it, none⟩ = false := hX2.sr.frozen _
  have hsw := hX2.swapD (i := it) (j := p) (by omega) (by omega)
  rw [hG, hG] at hsw
  have HSw := Lib.hid hsw; clear hsw hX2 hG
  rcases hoc with ⟨hc1, hc2⟩ | ⟨hc1, rfl⟩
  {
  by_cases hEq : it = p
  {
  subst hEq
  go_wp2
  go_region
  all_goals go_wp2
  go_roundw
  case rel => exact ⟨t + 1, xorNext r, _, by rw [Hit.out]; go_num, by omega, by rw [size_swp]; exact hsk, Lib.hid (by rw [← HeR.out]; exact HSw.out), HRn⟩
  case measure => simp [intOf]; have := Hit.out; omega
  }
  {
  have hEq2 : p ≠ it := fun e => hEq e.symm
  go_wp2
  go_region
  all_goals go_wp2
  go_roundw
  case rel => exact ⟨t + 1, xorNext r, _, by rw [Hit.out]; go_num, by omega, by rw [size_swp]; exact hsk, Lib.hid (by rw [← HeR.out]; exact HSw.out), HRn⟩
  case measure => simp [intOf]; have := Hit.out; omega
  }
  }
  {
  by_cases hEq : it = p
  {
  subst hEq
  go_wp2
  go_region
  all_goals go_wp2
  go_roundw
  case rel => exact ⟨t + 1, xorNext r, _, by rw [Hit.out]; go_num, by omega, by rw [size_swp]; exact hsk, Lib.hid (by rw [← HeR.out]; exact HSw.out), HRn⟩
  case measure => simp [intOf]; have := Hit.out; omega
  }
  {
  have hEq2 : p ≠ it := fun e => hEq e.symm
  go_wp2
  go_region
  all_goals go_wp2
  go_roundw
  case rel => exact ⟨t + 1, xorNext r, _, by rw [Hit.out]; go_num, by omega, by rw [size_swp]; exact hsk, Lib.hid (by rw [← HeR.out]; exact HSw.out), HRn⟩
  case measure => simp [intOf]; have := Hit.out; omega
  }
  }
  }
  {
  have hd : decide ((it : Int) ≤ (i0 : Int) + 2) = false := decide_eq_false (by omega)
  obtain rfl : t = 3 := by omega
  clear hit
  go_wp2
  go_end0
  exact ⟨rfl, by rw [HE.out, ← HR.out]; exact HX.out.sr⟩
  }
 }
 {
 have e : breakPatterns d a b = d := by unfold breakPatterns; rw [if_neg (by omega)]
 rw [e]
 have HS := Lib.hid h; clear h e
 go_enter Tryz.func215, Tryz.ntmps215
 go_wp2
 go_end0
 exact ⟨rfl, HS.out⟩
 }
set_option maxHeartbeats 3200000
theorem peq_u {w wr : World} {blk off cap a b pivot n : Nat} {d : Array Int} (h : SR w wr blk off d) (hn : d.size = n) (hap : a ≤ pivot) (hpb : pivot < b) (hb : b ≤ n) (hsz : n < 4611686018427387904) :
    Calls Tryz.prog 220 #[.slice (some ⟨blk, off, none⟩) n cap, .int .i64 a, .int .i64 b, .int .i64 pivot] wr fun e w' => e = .returned (.int .i64 (partitionEqual ltInt d a b pivot).1) ∧ SR w w' blk off (partitionEqual ltInt d a b pivot).2 := by
 obtain ⟨G, hG⟩ : ∃ G : Nat → Int, ∀ t, d[t]! = G t := ⟨fun t => d[t]!, fun _ => rfl⟩
 have ca : wr.cell? ⟨blk, off + a, none⟩ = some (.int .u64 (G a)) := by rw [h.cell (by omega), hG]
 have fa : wr.frozen? ⟨blk, off + a, none⟩ = false := h.frozen _
 have cp : wr.cell? ⟨blk, off + pivot, none⟩ = some (.int .u64 (G pivot)) := by rw [h.cell (by omega), hG]
 have fp : wr.frozen? ⟨blk, off + pivot, none⟩ = false := h.frozen _
 have an : (a : Int) < n := by omega
 have pn : (pivot : Int) < n := by omega
 have hsw := h.swapD (i := a) (j := pivot) (by omega) (by omega)
 rw [hG, hG] at hsw
 have HS := Lib.hid hsw; clear hsw h hG
 have HL : Hid (partEqLoop ltInt a (a + 1) (b - 1) (swp d a pivot) = partitionEqual ltInt d a b pivot) := Lib.hid rfl
 generalize partitionEqual ltInt d a b pivot = res at *
 go_enter Tryz.func220, Tryz.ntmps220
 go_wp2
 by_cases hEq : a = pivot
 case' pos =>
  subst hEq
  go_region
  all_goals go_wp2
  have hsz0 : (swp d a a).size = n := by rw [size_swp]; exact hn
  generalize swp d a a = d0 at *
  generalize ((wr.setCell ⟨blk, off + a, none⟩ (.int .u64 (G a))).setCell ⟨blk, off + a, none⟩ (.int .u64 (G a))).drew = w1 at *
 case' neg =>
  have ne1 : pivot ≠ a := fun e => hEq e.symm
  go_region
  all_goals go_wp2
  have hsz0 : (swp d a pivot).size = n := by rw [size_swp]; exact hn
  generalize swp d a pivot = d0 at *
  generalize ((wr.setCell ⟨blk, off + a, none⟩ (.int .u64 (G pivot))).setCell ⟨blk, off + pivot, none⟩ (.int .u64 (G a))).drew = w1 at *
 all_goals
  clear ca fa cp fp
  go_loopw [9, 10] (fun vi vj wr => ∃ (i j : Nat) (dk : Array Int), vi = .int .i64 i ∧ vj = .int .i64 j ∧ a + 1 ≤ i ∧ i ≤ j + 1 ∧ j < b ∧ dk.size = n ∧ Hid (SR w wr blk off dk) ∧ Hid (partEqLoop ltInt a i j dk = res)) (fun vi vj _ => (intOf vj + 1 - intOf vi).toNat)
  case atStart => exact ⟨a + 1, b - 1, d0, by go_num, by congr 1; omega, by omega, by omega, by omega, hsz0, HS, HL⟩
  case round =>
   clear HS HL
   obtain ⟨i, j, dk, rfl, rfl, hai, hij1, hjb, hsk, HS, HL⟩ := hrel
   obtain ⟨G, hG⟩ : ∃ G : Nat → Int, ∀ t, dk[t]! = G t := ⟨fun t => dk[t]!, fun _ => rfl⟩
   have HG := Lib.hid hG; clear hG
   go_wp2
   go_loopw [9] (fun vi wr2 => ∃ (i2 : Nat), vi = .int .i64 i2 ∧ i ≤ i2 ∧ i2 ≤ j + 1 ∧ Hid (SR w wr2 blk off dk) ∧ Hid (scanUp (fun x => !ltInt dk[a]! x) dk j i2 = scanUp (fun x => !ltInt dk[a]! x) dk j i)) (fun vi _ => j + 1 - (intOf vi).toNat)
   case atStart => exact ⟨i, rfl, Nat.le_refl _, by omega, HS, Lib.hid rfl⟩
   case round =>
    clear HS
    obtain ⟨i2, rfl, hi2a, hi2b, HS, HU⟩ := hrel
    by_cases hij : i2 ≤ j
    case' pos =>
     have hd : decide (i2 ≤ j) = true := decide_eq_true hij
     have an : (a : Int) < n := by omega
     have in2 : (i2 : Int) < n := by omega
     have ci : wr.cell? ⟨blk, off + i2, none⟩ = some (.int .u64 (G i2)) := by rw [HS.out.cell (by omega), HG.out]
     have ca : wr.cell? ⟨blk, off + a, none⟩ = some (.int .u64 (G a)) := by rw [HS.out.cell (by omega), HG.out]
     cases hl : ltInt (G a) (G i2)
     case false =>
      have HU2 := Lib.hid (show scanUp (fun x => !ltInt dk[a]! x) dk j (i2 + 1) = scanUp (fun x => !ltInt dk[a]! x) dk j i by rw [← HU.out, scanUp_go (fun x => !ltInt dk[a]! x) dk j i2 hij (by simp only [HG.out, hl]; rfl)])
      go_wp2
      go_quiet (first | (go_at_call 219; refine Calls.quiet_of_same (less_is hl _)))
      go_wp2
      go_roundw
      case rel => exact ⟨i2 + 1, by go_num, by omega, by omega, Lib.hid (HS.out.drewN nq), HU2⟩
      case measure => simp [intOf]; omega
     have hI : i2 = scanUp (fun x => !ltInt dk[a]! x) dk j i := by rw [← HU.out, scanUp_end (fun x => !ltInt dk[a]! x) dk j i2 (.inr (by simp only [HG.out, hl]; rfl))]
     have HI := Lib.hid hI; clear hI
     go_wp2
     go_quiet (first | (go_at_call 219; refine Calls.quiet_of_same (less_is hl _)))
     go_wp2
     have HS := Lib.hid (HS.out.drewN nq)
     generalize wr.drewN nq = wq at *
     clear hl ci ca hd
    case' neg =>
     have hd : decide (i2 ≤ j) = false := decide_eq_false hij
     have hI : i2 = scanUp (fun x => !ltInt dk[a]! x) dk j i := by rw [← HU.out, scanUp_end (fun x => !ltInt dk[a]! x) dk j i2 (.inl hij)]
     have HI := Lib.hid hI; clear hI
     go_wp2
     go_quiet (first | (go_at_call 219; refine Calls.quiet_of_same (less_is rfl _)))
     go_wp2
     have HS := Lib.hid (HS.out.drewN nq)
     generalize wr.drewN nq = wq at *
     clear hd hij
    all_goals
     go_loopw [10] (fun vj wr3 => ∃ (j2 : Nat), vj = .int .i64 j2 ∧ i2 ≤ j2 + 1 ∧ j2 ≤ j ∧ Hid (SR w wr3 blk off dk) ∧ Hid (scanDown (fun x => ltInt dk[a]! x) dk i2 j2 = scanDown (fun x => ltInt dk[a]! x) dk i2 j)) (fun vj _ => (intOf vj).toNat)
     case atStart => exact ⟨j, rfl, by omega, Nat.le_refl _, HS, Lib.hid rfl⟩
     case round =>
      clear HS
      obtain ⟨j2, rfl, hj2a, hj2b, HS, HD⟩ := hrel
      by_cases hij : i2 ≤ j2
      {
      have hd : decide (i2 ≤ j2) = true := decide_eq_true hij
      have an : (a : Int) < n := by omega
      have jn : (j2 : Int) < n := by omega
      have ci : wr.cell? ⟨blk, off + j2, none⟩ = some (.int .u64 (G j2)) := by rw [HS.out.cell (by omega), HG.out]
      have ca : wr.cell? ⟨blk, off + a, none⟩ = some (.int .u64 (G a)) := by rw [HS.out.cell (by omega), HG.out]
      cases hl : ltInt (G a) (G j2) with
      | true => {
      have HD2 := Lib.hid (show scanDown (fun x => ltInt dk[a]! x) dk i2 (j2 - 1) = scanDown (fun x => ltInt dk[a]! x) dk i2 j by rw [← HD.out, scanDown_go (fun x => ltInt dk[a]! x) dk i2 j2 hij (by omega) (by simp only [HG.out, hl])])
      go_wp2
      go_quiet (first | (go_at_call 219; refine Calls.quiet_of_same (less_is hl _)))
      go_wp2
      go_roundw
      case rel => exact ⟨j2 - 1, by congr 1; omega, by omega, by omega, Lib.hid (HS.out.drewN nq), HD2⟩
      case measure => simp [intOf]; omega
      }
      | false => {
      have hJ : j2 = scanDown (fun x => ltInt dk[a]! x) dk i2 j := by rw [← HD.out, scanDown_end (fun x => ltInt dk[a]! x) dk i2 j2 (.inr (by simp only [HG.out, hl]))]
      have HJ := Lib.hid hJ; clear hJ
      have fi : wr.frozen? ⟨blk, off + j2, none⟩ = false := HS.out.frozen _
      have fi2 : wr.frozen? ⟨blk, off + i2, none⟩ = false := HS.out.frozen _
      have ci2 : wr.cell? ⟨blk, off + i2, none⟩ = some (.int .u64 (G i2)) := by rw [HS.out.cell (by omega), HG.out]
      have in2 : (i2 : Int) < n := by omega
      have hne : i2 < j2 := scans_lt ltInt a i j dk (by omega) HI.out HJ.out hij
      have ne1 : i2 ≠ j2 := by omega
      have ne2 : j2 ≠ i2 := by omega
      have hgt : decide (i2 > j2) = false := decide_eq_false (by omega)
      go_wp2
      go_quiet (first | (go_at_call 219; refine Calls.quiet_of_same (less_is hl _)))
      go_wp2
      go_region
      all_goals go_wp2
      go_roundw
      case rel =>
       refine ⟨i2 + 1, j2 - 1, swp dk i2 j2, by go_num, by congr 1; omega, by omega, by omega, by omega, by rw [size_swp]; exact hsk, Lib.hid ?_, Lib.hid ?_⟩
       {
       have := HS.out.swap (nq + 1) (i := i2) (j := j2) (by omega) (by omega)
       rw [HG.out, HG.out] at this
       exact this
       }
       · rw [← HL.out, partEq_go ltInt a i j dk HI.out HJ.out (by omega)]
      case measure => simp [intOf]; omega
      }
      }
      {
      have hd : decide (i2 ≤ j2) = false := decide_eq_false hij
      have hJ : j2 = scanDown (fun x => ltInt dk[a]! x) dk i2 j := by rw [← HD.out, scanDown_end (fun x => ltInt dk[a]! x) dk i2 j2 (.inl hij)]
      have HJ := Lib.hid hJ; clear hJ
      have hgt : decide (i2 > j2) = true := decide_eq_true (by omega)
      go_wp2
      go_quiet (first | (go_at_call 219; refine Calls.quiet_of_same (less_is rfl _)))
      go_wp2
      go_ret
      exact ⟨by rw [← HL.out, partEq_break ltInt a i j dk HI.out HJ.out (by omega)]; rfl, by rw [← HL.out, partEq_break ltInt a i j dk HI.out HJ.out (by omega)]; exact HS.out.drewN nq⟩
      }
end Go.Proofs.YtgmnemndjjmgkaaGreat
