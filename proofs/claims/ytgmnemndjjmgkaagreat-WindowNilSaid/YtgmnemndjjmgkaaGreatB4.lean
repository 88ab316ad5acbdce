/- A map from integers whose elements are values of one shape, in memory. -/
import Derived.Test.YtgmnemndjjmgkaaGreatB3
import Derived.Test.YtgmnemndjjmgkaaGreatB2
import Derived.Maps.OwnOps
import Derived.Maps.OwnSet
import Derived.Test.YtgmnemndjjmgkaaGreatB1
set_option linter.unusedSimpArgs false
set_option linter.unusedVariables false
/- intern: New. -/
namespace Go.Proofs.YtgmnemndjjmgkaaGreat
open Go.RowKit
set_option maxRecDepth 4000
set_option maxHeartbeats 400000
theorem Tryz.info3 : (Tryz.prog.info? 3).map (fun i => (i.zero, i.size, i.bytes)) = some (some (.int .i64 0), 1, 8) := by kernel_rfl
def Tb.new (slots : Nat) : Tb := { A := Ar.new slots, ids := fun _ => 0 }
theorem table_new_no (slots : Int) (w : World) (h : slots < 0 ∨ 65536 < slots) :
    Calls Tryz.prog 164 #[.int .i64 slots] w fun e w' => e = .returned (.tuple #[.pointer none, .int .i64 2]) ∧ w = w' := by
 have H := Lib.hid h; clear h
 go_enter Tryz.func164, Tryz.ntmps164
 go_wp2_with (go_at_call 163; refine (arena_new_no slots _ H.out).mono ?_; rintro e w' ⟨rfl, rfl⟩)
 go_ret2
 exact ⟨rfl, rfl⟩
theorem made_ints (n : Nat) : madeCells (Value.int .i64 0).cells n = (fnRow n (cellF (fun _ => 0))).toArray := by
 apply Array.ext
 · simp [madeCells, fnRow]
 {
 intro i h1 h2
 simp [madeCells, fnRow, cellF, Value.cells, Nat.mod_one]
 }
theorem run_make_ints (n : Nat) (w : World) (hn : n ≤ 1048576) : (Instr.makeSlice 94 (.int .i64 n) (.int .i64 n)).run Tryz.prog w = .ok (.slice (some ⟨w.heap.size, 0, none⟩) n n) (w.alloc (.cells (fnRow n (cellF (fun _ => 0))).toArray 3)) := by
 obtain ⟨i0, hi, hz0, hz1, hz2⟩ := info_parts Tryz.info3
 have h := run_make (P := Tryz.prog) w 94 3 i0 (.int .i64 0) Tryz.underlying94 hi hz0 .i64 .i64 n n (by omega) (by omega) (by rw [hz2]; omega) (by omega)
 rw [hz1] at h
 simp only [Int.toNat_natCast, Nat.mul_one] at h
 rw [made_ints] at h
 exact h
theorem pow_lt_17 {j : Nat} (h : 2 ^ j < 131072) : j < 17 := by
 apply Classical.byContradiction
 intro hn
 have : 2 ^ 17 ≤ 2 ^ j := Nat.pow_le_pow_right (by decide) (by omega)
 omega
theorem table_new (slots : Nat) (w : World) (h : slots ≤ 65536) :
    Calls Tryz.prog 164 #[.int .i64 slots] w fun e w' => ∃ pt, e = .returned (.tuple #[ptr pt, .int .i64 0]) ∧ ∃ l, TableAt w' pt (Tb.new slots) l ∧ Fr [] w w' ∧ ∀ b ∈ l, w.heap.size ≤ b := by
 go_enter Tryz.func164, Tryz.ntmps164
 go_wp2_with (go_at_call 163; refine (arena_new slots _ h).mono ?_; rintro e w1 ⟨rfl, hA, hFr⟩)
 go_loop [6] (fun a => ∃ j n : Nat, 1 ≤ j ∧ j ≤ 17 ∧ n ≤ 131072 ∧ Hid (n = 2 ^ j) ∧ a = .int .i64 n) (fun a => 200000 - (intOf a).toNat)
 case atStart => exact ⟨1, 2, by omega, by omega, by omega, Lib.hid rfl, rfl⟩
 case round =>
  obtain ⟨j, n, hj1, hj2, hn1, Hn, rfl⟩ := hrel
  by_cases hlt : n < 2 * slots
  {
  go_wp2
  go_round
  case rel =>
   have hj3 : j < 17 := pow_lt_17 (by rw [← Hn.out]; omega)
   have hp : 2 ^ (j + 1) ≤ 2 ^ 17 := Nat.pow_le_pow_right (by decide) (by omega)
   have hq : n * 2 = 2 ^ (j + 1) := by rw [Hn.out]; rfl
   refine ⟨j + 1, n * 2, by omega, by omega, by omega, Lib.hid hq, by go_num⟩
  case measure =>
   have hp : 1 ≤ n := by rw [Hn.out]; exact Nat.one_le_two_pow
   simp [intOf]; omega
  }
  {
  have hmk := fun W => run_make_ints n W (by omega)
  go_wp2
  go_ret2
  have hw : w.heap.size < w1.heap.size := hA.lt _ (by simp)
  have b1 := Blk.new w1 (fnRow n (cellF fun _ => 0)) 3
  have b2 := Blk.new (w1.alloc (.cells (fnRow n (cellF fun _ => 0)).toArray 3)) [ptr (w1.heap.size + 1), ptr w.heap.size, .slice none 0 0, .slice (some ⟨w1.heap.size, 0, none⟩) n n] 204
  simp only [World.size_alloc] at b2
  refine ⟨w1.heap.size + 1, rfl, (w1.heap.size + 1) :: w1.heap.size :: ([] ++ [w.heap.size]), ⟨n, [], w.heap.size, w1.heap.size, n, .slice none 0 0, fun _ => 0, [w.heap.size], b2, ?_, World.ownsRow_nil _ _ _ _, by unfold clRow; rw [List.append_nil]; exact b1.alloc _, rfl, ?_, ?_, ?_, ?_, ?_, ?_⟩, ?_, ?_⟩
  {
  exact hA.same (fun b hb => by
    simp only [List.mem_singleton] at hb; subst hb
    rw [Below.heap_alloc _ _ _ (by simp; omega), Below.heap_alloc _ _ _ hw])
  }
  · simp; omega
  · rw [Hn.out]; exact Mask.mk' j hj1 hj2
  · show 2 * slots ≤ n; omega
  · exact ⟨fun c _ h0 => absurd rfl h0, fun c d _ _ h0 => absurd rfl h0, fun i hi => absurd hi.1 (Nat.not_lt_zero _)⟩
  · intro i j hi; exact absurd hi.1 (Nat.not_lt_zero _)
  · intro i hi; exact absurd hi (Nat.not_lt_zero _)
  · exact (hFr.alloc _).alloc _
  · intro b hb; simp at hb; omega
  }
end Go.Proofs.YtgmnemndjjmgkaaGreat

/- A plain model of an intern table: the ids with their indexes, in the order in which they came; the free indexes, the last one first; how many indexes were given out. -/
namespace Go.Proofs.YtgmnemndjjmgkaaGreat
structure Md where
  slots : Nat
  L : List (Nat × Nat)
  free : List Nat
  given : Nat
namespace Md
def new (slots : Nat) : Md := { slots := slots, L := [], free := [], given := 0 }
def find (M : Md) (id : Nat) : Option Nat := (M.L.find? (fun x => x.1 == id)).map (·.2)
def idOf (M : Md) (i : Nat) : Option Nat := (M.L.find? (fun x => x.2 == i)).map (·.1)
def next (M : Md) : Option Nat := match M.free with
  | k :: _ => some k
  | [] => if M.given < M.slots then some M.given else none
def add (M : Md) (id i : Nat) : Md := { M with L := M.L ++ [(id, i)], free := M.free.tail, given := match M.free with | [] => M.given + 1 | _ => M.given }
def rem (M : Md) (id i : Nat) : Md := { M with L := M.L.filter (fun x => x.1 != id), free := i :: M.free }
structure PutR where
  idx : Nat
  added : Bool
  err : Nat
  M : Md
def put (M : Md) (id : Nat) : PutR := match M.find id with
  | some i => ⟨i, false, 0, M⟩
  | none => match M.next with
    | none => ⟨0, false, 4, M⟩
    | some i => ⟨i, true, 0, M.add id i⟩
structure DelR where
  err : Nat
  M : Md
def del (M : Md) (id : Nat) : DelR := match M.find id with
  | none => ⟨5, M⟩
  | some i => ⟨0, M.rem id i⟩
def ar (M : Md) : Ar := { slots := M.slots, begun := M.given, free := M.free }
structure Ok (M : Md) : Prop where
  ar : M.ar.ok
  ids : (M.L.map (·.1)).Nodup
  idx : (M.L.map (·.2)).Nodup
  used : ∀ x ∈ M.L, M.ar.isUsed x.2
  all : ∀ i, M.ar.isUsed i → ∃ id, (id, i) ∈ M.L
  cnt : M.L.length + M.free.length = M.given
  u64 : ∀ x ∈ M.L, x.1 < 18446744073709551616
theorem mem_find {M : Md} (h : (M.L.map (·.1)).Nodup) {id i : Nat} (hm : (id, i) ∈ M.L) : M.find id = some i := by
 unfold find
 generalize M.L = l at *
 induction l with
 | nil => cases hm
 | cons a r ih => {
 simp only [List.map_cons, List.nodup_cons] at h
 by_cases e : a.1 = id
 {
 rcases List.mem_cons.1 hm with rfl | hm
 · simp
 · exact absurd (List.mem_map.2 ⟨_, hm, e.symm⟩) h.1
 }
 {
 rcases List.mem_cons.1 hm with rfl | hm
 · exact absurd rfl e
 · rw [List.find?_cons_of_neg (by simpa using e)]; exact ih h.2 hm
 }
 }
theorem find_mem {M : Md} {id i : Nat} (hf : M.find id = some i) : (id, i) ∈ M.L := by
 unfold find at hf
 simp only [Option.map_eq_some_iff] at hf
 obtain ⟨x, hx, rfl⟩ := hf
 have h1 := List.find?_some hx
 have h2 := List.mem_of_find?_eq_some hx
 simp at h1
 subst h1
 exact h2
theorem find_iff {M : Md} (h : M.Ok) {id i : Nat} : M.find id = some i ↔ (id, i) ∈ M.L := ⟨find_mem, mem_find h.ids⟩
theorem find_none {M : Md} {id : Nat} : M.find id = none ↔ ∀ i, (id, i) ∉ M.L := by
 unfold find
 simp only [Option.map_eq_none_iff, List.find?_eq_none, beq_iff_eq]
 constructor
 · intro h i hm; exact h _ hm rfl
 · rintro h ⟨a, b⟩ hm e; subst e; exact h b hm
theorem mem_idOf {M : Md} (h : (M.L.map (·.2)).Nodup) {id i : Nat} (hm : (id, i) ∈ M.L) : M.idOf i = some id := by
 unfold idOf
 generalize M.L = l at *
 induction l with
 | nil => cases hm
 | cons a r ih => {
 simp only [List.map_cons, List.nodup_cons] at h
 by_cases e : a.2 = i
 {
 rcases List.mem_cons.1 hm with rfl | hm
 · simp
 · exact absurd (List.mem_map.2 ⟨_, hm, e.symm⟩) h.1
 }
 {
 rcases List.mem_cons.1 hm with rfl | hm
 · exact absurd rfl e
 · rw [List.find?_cons_of_neg (by simpa using e)]; exact ih h.2 hm
 }
 }
theorem ok_new {slots : Nat} (h : slots ≤ 65536) : (new slots).Ok :=
  ⟨⟨h, by simp [new, ar], by simp [new, ar], by simp [new, ar]⟩, by simp [new], by simp [new], by simp [new], fun i hi => absurd hi.1 (Nat.not_lt_zero _), rfl, by simp [new]⟩
theorem ar_next (M : Md) : M.ar.next = M.next := by
 unfold ar next Ar.next; cases M.free <;> rfl
theorem ar_add {M : Md} {id i : Nat} (h : M.next = some i) : (M.add id i).ar = M.ar.alloc := by
 obtain ⟨s, L, f, g⟩ := M
 cases f <;> rfl
theorem ar_rem (M : Md) (id i : Nat) : (M.rem id i).ar = M.ar.put i := rfl
theorem alloc_ok {A : Ar} {i : Nat} (h : A.ok) (hn : A.next = some i) : A.alloc.ok := by
 obtain ⟨s, b, f⟩ := A
 cases f with
 | cons k r => refine ⟨h.hs, h.hb, (List.nodup_cons.1 h.nd).2, fun x hx => h.lt x (List.mem_cons_of_mem _ hx)⟩
 | nil => {
 simp only [Ar.next] at hn
 by_cases hb : b < s
 · exact ⟨h.hs, by simp [Ar.alloc]; omega, by simp [Ar.alloc], by simp [Ar.alloc]⟩
 · rw [if_neg hb] at hn; cases hn
 }
theorem isUsed_alloc' {A : Ar} {i : Nat} (hok : A.ok) (hn : A.next = some i) : (¬ A.isUsed i) ∧ ∀ j, A.alloc.isUsed j ↔ (A.isUsed j ∨ j = i) := by
 obtain ⟨slots, begun, free⟩ := A
 cases free with
 | cons k r => {
 obtain rfl : k = i := by simpa [Ar.next] using hn
 have hnd := hok.nd
 have hlt := hok.lt k (by simp)
 simp only [List.nodup_cons] at hnd
 dsimp only at hlt
 refine ⟨by simp [Ar.isUsed], fun j => ?_⟩
 simp only [Ar.isUsed, Ar.alloc, List.mem_cons, not_or]
 constructor
 {
 rintro ⟨a, b⟩
 by_cases e : j = k
 · exact .inr e
 · exact .inl ⟨a, e, b⟩
 }
 {
 rintro (⟨a, _, b⟩ | rfl)
 · exact ⟨a, b⟩
 · exact ⟨hlt, hnd.1⟩
 }
 }
 | nil => {
 simp only [Ar.next] at hn
 by_cases hb : begun < slots
 {
 rw [if_pos hb] at hn
 obtain rfl : begun = i := by simpa using hn
 refine ⟨by simp [Ar.isUsed], fun j => ?_⟩
 simp only [Ar.isUsed, Ar.alloc, List.not_mem_nil, not_false_eq_true, and_true]
 omega
 }
 · rw [if_neg hb] at hn; cases hn
 }
theorem ok_add {M : Md} (h : M.Ok) {id i : Nat} (hid : id < 18446744073709551616) (hf : M.find id = none) (hn : M.next = some i) : (M.add id i).Ok := by
 have hn' : M.ar.next = some i := by rw [ar_next]; exact hn
 obtain ⟨hnu, hiff⟩ := isUsed_alloc' h.ar hn'
 have hno := find_none.1 hf
 refine ⟨by rw [ar_add hn]; exact alloc_ok h.ar hn', ?_, ?_, ?_, ?_, ?_, ?_⟩
 {
 simp only [add, List.map_append, List.map_cons, List.map_nil, List.nodup_append]
 refine ⟨h.ids, by simp, ?_⟩
 intro a ha b hb e
 simp only [List.mem_singleton] at hb
 obtain ⟨x, hx, rfl⟩ := List.mem_map.1 ha
 exact hno x.2 (by rw [← hb, ← e]; exact hx)
 }
 {
 simp only [add, List.map_append, List.map_cons, List.map_nil, List.nodup_append]
 refine ⟨h.idx, by simp, ?_⟩
 intro a ha b hb e
 simp only [List.mem_singleton] at hb
 obtain ⟨x, hx, rfl⟩ := List.mem_map.1 ha
 have := h.used x hx
 rw [e, hb] at this
 exact hnu this
 }
 {
 intro x hx
 rw [ar_add hn, hiff]
 simp only [add, List.mem_append, List.mem_singleton] at hx
 rcases hx with hx | rfl
 · exact .inl (h.used x hx)
 · exact .inr rfl
 }
 {
 intro j hj
 rw [ar_add hn, hiff] at hj
 rcases hj with hj | rfl
 {
 obtain ⟨id', hm⟩ := h.all j hj
 exact ⟨id', by simp [add, hm]⟩
 }
 · exact ⟨id, by simp [add]⟩
 }
 {
 have := h.cnt
 obtain ⟨s, L, f, g⟩ := M
 cases f with
 | nil => simp [add] at *; omega
 | cons k r => simp [add] at *; omega
 }
 {
 intro x hx
 simp only [add, List.mem_append, List.mem_singleton] at hx
 rcases hx with hx | rfl
 · exact h.u64 x hx
 · exact hid
 }
theorem filter_ne {l : List (Nat × Nat)} {id i : Nat} (hnd : (l.map (·.1)).Nodup) (hm : (id, i) ∈ l) : (l.filter (fun x => x.1 != id)).length + 1 = l.length := by
 induction l with
 | nil => cases hm
 | cons a r ih => {
 simp only [List.map_cons, List.nodup_cons] at hnd
 by_cases e : a.1 = id
 {
 have hr : r.filter (fun x => x.1 != id) = r := List.filter_eq_self.2 (fun x hx => by
   simp only [bne_iff_ne]; intro e2; exact hnd.1 (List.mem_map.2 ⟨x, hx, e2.trans e.symm⟩))
 rw [List.filter_cons_of_neg (by simp [e]), hr]; simp
 }
 {
 rcases List.mem_cons.1 hm with rfl | hm
 · exact absurd rfl e
 · rw [List.filter_cons_of_pos (by simpa using e), List.length_cons, List.length_cons, ih hnd.2 hm]
 }
 }
theorem isUsed_put' {A : Ar} {k : Nat} (_hu : A.isUsed k) (j : Nat) : (A.put k).isUsed j ↔ (A.isUsed j ∧ j ≠ k) := by
 simp only [Ar.isUsed, Ar.put, List.mem_cons, not_or]
 constructor
 · rintro ⟨a, b, c⟩; exact ⟨⟨a, c⟩, b⟩
 · rintro ⟨⟨a, c⟩, b⟩; exact ⟨a, b, c⟩
theorem ok_rem {M : Md} (h : M.Ok) {id i : Nat} (hm : (id, i) ∈ M.L) : (M.rem id i).Ok := by
 have hu := h.used _ hm
 have hiff := isUsed_put' hu
 have hne : ∀ x ∈ M.L, x.1 ≠ id → x.2 ≠ i := by {
 intro x hx hn e
 have h1 := mem_idOf h.idx (show (x.1, x.2) ∈ M.L from hx)
 have h2 := mem_idOf h.idx hm
 rw [e, h2] at h1
 exact hn (by simpa using h1.symm)
 }
 refine ⟨?_, ?_, ?_, ?_, ?_, ?_, ?_⟩
 {
 rw [ar_rem]
 refine ⟨h.ar.hs, h.ar.hb, ?_, ?_⟩
 · simp only [Ar.put, List.nodup_cons]; exact ⟨hu.2, h.ar.nd⟩
 {
 intro x hx; simp only [Ar.put, List.mem_cons] at hx
 rcases hx with rfl | hx
 · exact hu.1
 · exact h.ar.lt x hx
 }
 }
 · exact (List.Sublist.map _ List.filter_sublist).nodup h.ids
 · exact (List.Sublist.map _ List.filter_sublist).nodup h.idx
 {
 intro x hx
 simp only [rem, List.mem_filter, bne_iff_ne] at hx
 rw [ar_rem, hiff]
 exact ⟨h.used x hx.1, hne x hx.1 hx.2⟩
 }
 {
 intro j hj
 rw [ar_rem, hiff] at hj
 obtain ⟨id', hm'⟩ := h.all j hj.1
 refine ⟨id', ?_⟩
 simp only [rem, List.mem_filter, bne_iff_ne]
 refine ⟨hm', fun e => ?_⟩
 subst e
 have h1 := mem_find h.ids hm
 rw [mem_find h.ids hm'] at h1
 exact hj.2 (by simpa using h1)
 }
 {
 have := h.cnt
 have h2 := filter_ne h.ids hm
 simp only [rem, List.length_cons]
 omega
 }
 {
 intro x hx
 simp only [rem, List.mem_filter] at hx
 exact h.u64 x hx.1
 }
theorem ok_put {M : Md} (h : M.Ok) {id : Nat} (hid : id < 18446744073709551616) : (M.put id).M.Ok := by
 unfold put
 cases hf : M.find id with
 | some i => exact h
 | none => {
 cases hn : M.next with
 | none => exact h
 | some i => exact ok_add h hid hf hn
 }
theorem ok_del {M : Md} (h : M.Ok) (id : Nat) : (M.del id).M.Ok := by
 unfold del
 cases hf : M.find id with
 | none => exact h
 | some i => exact ok_rem h (find_mem hf)
end Md
end Go.Proofs.YtgmnemndjjmgkaaGreat

/- The contracts of package intern over the plain model. -/
namespace Go.Proofs.YtgmnemndjjmgkaaGreat
open Go.RowKit
def TabM (w : World) (pt : Nat) (M : Md) (l : List Nat) : Prop :=
  ∃ T, TableAt w pt T l ∧ T.A = M.ar ∧ M.Ok ∧ ∀ id i, (id, i) ∈ M.L ↔ (T.used i ∧ T.ids i = id)
theorem TabM.ok {w : World} {pt : Nat} {M : Md} {l : List Nat} (h : TabM w pt M l) : M.Ok := by obtain ⟨_, _, _, h, _⟩ := h; exact h
theorem TabM.lt {w : World} {pt : Nat} {M : Md} {l : List Nat} (h : TabM w pt M l) : ∀ b ∈ l, b < w.heap.size := by obtain ⟨_, h, _⟩ := h; exact h.lt
theorem TabM.fr {w w' : World} {pt : Nat} {M : Md} {l S : List Nat} (h : TabM w pt M l) (hf : Fr S w w') (hd : ∀ b ∈ l, b ∉ S) : TabM w' pt M l := by
 obtain ⟨T, h, r⟩ := h; exact ⟨T, h.fr hf hd, r⟩
theorem TabM.below {w w' : World} {pt : Nat} {M : Md} {l : List Nat} (h : TabM w pt M l) (hf : Below w.heap.size w w') : TabM w' pt M l :=
  h.fr (Fr.of_below hf) (by simp)
def Next (l l' : List Nat) (w w' : World) : Prop := Fr l w w' ∧ ∀ b ∈ l', b ∈ l ∨ w.heap.size ≤ b
theorem Next.of_below {l : List Nat} {w w' : World} (h : Below w.heap.size w w') : Next l l w w' := ⟨(Fr.of_below h).mono (by simp), fun _ h => .inl h⟩
theorem tab_new (slots : Nat) (w : World) (h : slots ≤ 65536) :
    Calls Tryz.prog 164 #[.int .i64 slots] w fun e w' => ∃ pt, e = .returned (.tuple #[ptr pt, .int .i64 0]) ∧ ∃ l, TabM w' pt (Md.new slots) l ∧ Next [] l w w' := by
 refine (table_new slots w h).mono ?_
 rintro e w' ⟨pt, rfl, l, hT, hF, hl⟩
 refine ⟨pt, rfl, l, ⟨_, hT, rfl, Md.ok_new h, fun id i => ?_⟩, hF, fun b hb => .inr (hl b hb)⟩
 simp only [Md.new, List.not_mem_nil, false_iff, not_and]
 intro hu; exact absurd hu.1 (Nat.not_lt_zero _)
theorem tab_put {w : World} {pt : Nat} {M : Md} {l : List Nat} (id : Nat) (hid : id < 18446744073709551616) (h : TabM w pt M l) :
    Calls Tryz.prog 156 #[ptr pt, .int .u64 id] w fun e w' => e = .returned (.tuple #[.int .i64 (M.put id).idx, .bool (M.put id).added, .int .i64 (M.put id).err]) ∧
      ∃ l', TabM w' pt (M.put id).M l' ∧ Next l l' w w' := by
 have h0 := h
 obtain ⟨T, hT, hA, hok, hiff⟩ := h
 cases hf : M.find id with
 | some i => {
 have hm := (hiff id i).1 (Md.find_mem hf)
 have e : M.put id = ⟨i, false, 0, M⟩ := by simp only [Md.put, hf]
 rw [e]
 refine (table_put_there hid hT hm.1 hm.2).mono ?_
 rintro e w' ⟨rfl, hB⟩
 exact ⟨rfl, l, h0.below hB, Next.of_below hB⟩
 }
 | none => {
 have hno : ∀ i, T.used i → T.ids i ≠ id := fun i hu e => Md.find_none.1 hf i ((hiff id i).2 ⟨hu, e⟩)
 cases hn : M.next with
 | none => {
 have e : M.put id = ⟨0, false, 4, M⟩ := by simp only [Md.put, hf, hn]
 rw [e]
 refine (table_put_full hid hT hno (by rw [hA, Md.ar_next]; exact hn)).mono ?_
 rintro e w' ⟨rfl, hB⟩
 exact ⟨rfl, l, h0.below hB, Next.of_below hB⟩
 }
 | some i => {
 have e : M.put id = ⟨i, true, 0, M.add id i⟩ := by simp only [Md.put, hf, hn]
 rw [e]
 have hn' : T.A.next = some i := by rw [hA, Md.ar_next]; exact hn
 refine (table_put_new hid hT hno hn').mono ?_
 rintro e w' ⟨rfl, l', hT', hF, hs⟩
 refine ⟨rfl, l', ⟨T.put id i, hT', ?_, Md.ok_add hok hid hf hn, fun id' j => ?_⟩, hF, hs⟩
 · rw [Md.ar_add hn, ← hA]; rfl
 {
 have hu := isUsed_alloc (by rw [hA]; exact hok.ar) hn'
 simp only [Md.add, List.mem_append, List.mem_singleton, Prod.mk.injEq, hiff]
 have hu2 : (T.put id i).used j ↔ (T.used j ∨ j = i) := hu.2 j
 rw [hu2]
 simp only [Tb.put]
 constructor
 {
 rintro (⟨h1, h2⟩ | ⟨rfl, rfl⟩)
 {
 have : j ≠ i := fun e => hu.1 (e ▸ h1)
 rw [updN_other this]; exact ⟨.inl h1, h2⟩
 }
 · rw [updN_same]; exact ⟨.inr rfl, rfl⟩
 }
 {
 rintro ⟨h1, h2⟩
 by_cases e : j = i
 · rw [e, updN_same] at h2; exact .inr ⟨h2.symm, e⟩
 · rw [updN_other e] at h2; exact .inl ⟨h1.resolve_right e, h2⟩
 }
 }
 }
 }
theorem tab_del {w : World} {pt : Nat} {M : Md} {l : List Nat} (id : Nat) (hid : id < 18446744073709551616) (h : TabM w pt M l) :
    Calls Tryz.prog 94 #[ptr pt, .int .u64 id] w fun e w' => e = .returned (.int .i64 (M.del id).err) ∧ TabM w' pt (M.del id).M l ∧ Next l l w w' := by
 have h0 := h
 obtain ⟨T, hT, hA, hok, hiff⟩ := h
 cases hf : M.find id with
 | none => {
 have hno : ∀ i, T.used i → T.ids i ≠ id := fun i hu e => Md.find_none.1 hf i ((hiff id i).2 ⟨hu, e⟩)
 have e : M.del id = ⟨5, M⟩ := by simp only [Md.del, hf]
 rw [e]
 refine (table_del_none hid hT hno).mono ?_
 rintro e w' ⟨rfl, hB⟩
 exact ⟨rfl, h0.below hB, Next.of_below hB⟩
 }
 | some i => {
 have hm := (hiff id i).1 (Md.find_mem hf)
 have e : M.del id = ⟨0, M.rem id i⟩ := by simp only [Md.del, hf]
 rw [e]
 refine (table_del hid hT hm.1 hm.2).mono ?_
 rintro e w' ⟨rfl, hT', hF⟩
 refine ⟨rfl, ⟨T.del i, hT', ?_, Md.ok_rem hok (Md.find_mem hf), fun id' j => ?_⟩, hF, fun _ h => .inl h⟩
 · rw [Md.ar_rem, ← hA]; rfl
 {
 have hu2 : (T.del i).used j ↔ (T.used j ∧ j ≠ i) := isUsed_put hm.1 j
 simp only [Md.rem, List.mem_filter, bne_iff_ne, hiff]
 rw [hu2]
 simp only [Tb.del]
 constructor
 {
 rintro ⟨⟨h1, h2⟩, h3⟩
 have e : j ≠ i := by rintro rfl; exact h3 (h2.symm.trans hm.2)
 rw [updN_other e]; exact ⟨⟨h1, e⟩, h2⟩
 }
 {
 rintro ⟨⟨h1, h3⟩, h2⟩
 rw [updN_other h3] at h2
 refine ⟨⟨h1, h2⟩, fun e => ?_⟩
 have a1 := (hiff id j).2 ⟨h1, h2.trans e⟩
 have a2 := Md.mem_find hok.ids a1
 rw [hf] at a2
 exact h3 (by simpa using a2.symm)
 }
 }
 }
theorem tab_get {w : World} {pt : Nat} {M : Md} {l : List Nat} (id : Nat) (hid : id < 18446744073709551616) (h : TabM w pt M l) :
    Calls Tryz.prog 124 #[ptr pt, .int .u64 id] w fun e w' => e = .returned (.tuple #[.int .i64 ((M.find id).getD 0), .bool (M.find id).isSome]) ∧ TabM w' pt M l ∧ Below w.heap.size w w' := by
 have h0 := h
 obtain ⟨T, hT, hA, hok, hiff⟩ := h
 cases hf : M.find id with
 | none => {
 have hno : ∀ i, T.used i → T.ids i ≠ id := fun i hu e => Md.find_none.1 hf i ((hiff id i).2 ⟨hu, e⟩)
 refine (table_get_no hid hT hno).mono ?_
 rintro e w' ⟨rfl, hB⟩
 exact ⟨rfl, h0.below hB, hB⟩
 }
 | some i => {
 have hm := (hiff id i).1 (Md.find_mem hf)
 refine (table_get_yes hid hT hm.1 hm.2).mono ?_
 rintro e w' ⟨rfl, hB⟩
 exact ⟨rfl, h0.below hB, hB⟩
 }
theorem tab_len {w : World} {pt : Nat} {M : Md} {l : List Nat} (h : TabM w pt M l) :
    Calls Tryz.prog 95 #[ptr pt] w fun e w' => e = .returned (.int .i64 M.L.length) ∧ w = w' := by
 obtain ⟨T, hT, hA, hok, hiff⟩ := h
 refine (table_len hT).mono ?_
 rintro e w' ⟨rfl, rfl⟩
 refine ⟨ret_int ?_, rfl⟩
 have := hok.cnt
 rw [hA]; simp only [Md.ar, Ar.used]; omega
end Go.Proofs.YtgmnemndjjmgkaaGreat

/- arena: List and Copy. -/
namespace Go.Proofs.YtgmnemndjjmgkaaGreat
open Go.RowKit
set_option maxRecDepth 10000
set_option maxHeartbeats 800000
def usedTo (A : Ar) (i : Nat) : List Nat := (List.range i).filter fun k => !A.free.contains k
def usedL (A : Ar) : List Nat := usedTo A A.begun
def encN (l : List Nat) : List Value := l.map fun (x : Nat) => .int .i64 x
theorem usedTo_succ_yes {A : Ar} {i : Nat} (h : i ∉ A.free) : usedTo A (i + 1) = usedTo A i ++ [i] := by
 simp [usedTo, List.range_succ, List.filter_append, h]
theorem usedTo_succ_no {A : Ar} {i : Nat} (h : i ∈ A.free) : usedTo A (i + 1) = usedTo A i := by
 simp [usedTo, List.range_succ, List.filter_append, h]
theorem usedTo_len (A : Ar) (i : Nat) : (usedTo A i).length ≤ i := Nat.le_trans (List.length_filter_le _ _) (by simp)
theorem usedL_len {A : Ar} (h : A.ok) : (usedL A).length = A.used := by
 unfold usedL usedTo Ar.used
 have h1 : ((List.range A.begun).filter fun k => !A.free.contains k).length + ((List.range A.begun).filter fun k => A.free.contains k).length = A.begun := by {
 rw [← List.countP_eq_length_filter, ← List.countP_eq_length_filter]
 have := List.length_eq_countP_add_countP (fun k => A.free.contains k) (l := List.range A.begun)
 simp only [List.length_range] at this
 have e : (List.range A.begun).countP (fun k => !A.free.contains k) = (List.range A.begun).countP (fun a => decide (¬ A.free.contains a = true)) := by apply List.countP_congr; intro x _; simp
 omega
 }
 have h2 : ((List.range A.begun).filter fun k => A.free.contains k).length = A.free.length := by {
 apply List.Perm.length_eq
 rw [List.perm_ext_iff_of_nodup (List.filter_sublist.nodup List.nodup_range) h.nd]
 intro k
 simp only [List.mem_filter, List.mem_range, List.contains_iff_mem]
 exact ⟨fun h => h.2, fun hk => ⟨h.lt k hk, hk⟩⟩
 }
 omega
theorem mem_usedL {A : Ar} {k : Nat} : k ∈ usedL A ↔ A.isUsed k := by
 simp [usedL, usedTo, Ar.isUsed]
theorem nodup_usedL (A : Ar) : (usedL A).Nodup := List.filter_sublist.nodup List.nodup_range
def stI (A : Ar) (k : Nat) : Int := if k ∈ A.free then 2 else 1
theorem arena_state {w : World} {pa : Nat} {A : Ar} {l : List Nat} (h : ArenaAt w pa A l) {k : Nat} (hk : k < A.begun) :
    Calls Tryz.prog 140 #[ptr pa, .int .i64 k] w fun e w' => e = .returned (.int .i64 (stI A k)) ∧ w = w' := by
 obtain ⟨v, bs, st, af, h1, h2, h3, rfl, hnd, hl, hok, hst, hch⟩ := h
 have hs := hok.hs
 have hb := hok.hb
 obtain ⟨g, cap, b, tm, rfl, hbk, hg1, hg2, hbp, c1, c2, c3, c4, hfz⟩ := ArenaAt.slot h2 h3 hnd hl (show k / 64 < bs.length by omega)
 have e : st k = stI A k := by {
 unfold stI
 by_cases hf : k ∈ A.free
 · rw [if_pos hf, hst.1 k hk hf]
 · rw [if_neg hf, hst.2 k hk hf]
 }
 rw [← e]
 exact arena_state_w pa g bs.length cap b k A.begun (st k) w (h1.cell 1) (by omega) (by omega) (h1.cell 3) hk c1 c2
theorem run_make0 (c : Nat) (w : World) (hn : c ≤ 1048576) : (Instr.makeSlice 94 (.int .i64 0) (.int .i64 c)).run Tryz.prog w = .ok (.slice (some ⟨w.heap.size, 0, none⟩) 0 c) (w.alloc (.cells (fnRow c (cellF (fun _ => 0))).toArray 3)) := by
 obtain ⟨i0, hi, hz0, hz1, hz2⟩ := info_parts Tryz.info3
 have h := run_make (P := Tryz.prog) w 94 3 i0 (.int .i64 0) Tryz.underlying94 hi hz0 .i64 .i64 0 c (by omega) (by omega) (by rw [hz2]; omega) (by omega)
 rw [hz1] at h
 simp only [Int.toNat_natCast, Nat.mul_one] at h
 rw [made_ints] at h
 exact h
theorem owns_made {w : World} {e : TypeId} {cs : List Value} (c : Nat) (hc : cs.length = c) (hm : c ≤ 1048576) : (w.alloc (.cells cs.toArray e)).ownsRow 0 e 1 (.slice (some ⟨w.heap.size, 0, none⟩) 0 c) 0 [] :=
  ⟨rfl, .inr ⟨w.heap.size, c, cs.toArray, rfl, Nat.zero_le _, World.alloc_heap_new w _, Nat.zero_le _, by unfold maxLen; omega, by simp [hc], by simp⟩⟩
theorem ArenaAt.fr {w w' : World} {pa : Nat} {A : Ar} {l S : List Nat} (h : ArenaAt w pa A l) (hf : Fr S w w') (hd : ∀ b ∈ l, b ∉ S) : ArenaAt w' pa A l :=
  h.same fun b hb => hf.keep b (h.lt b hb) (hd b hb)
theorem arena_list {w : World} {pa : Nat} {A : Ar} {l : List Nat} (h : ArenaAt w pa A l) :
    Calls Tryz.prog 97 #[ptr pa] w fun e w' => ∃ v, e = .returned v ∧ w'.ownsRow 0 3 1 v (usedL A).length (encN (usedL A)) ∧ (∀ q, v.ownBlock = some q → w.heap.size ≤ q) ∧ Fr [] w w' := by
 have hok := h.ok
 have hs := hok.hs
 have hb := hok.hb
 have hlt := h.lt
 have HA := Lib.hid h
 obtain ⟨v0, bs, st, af, h1, _⟩ := h
 have c0 := h1.cell 0
 have c3 := h1.cell 3
 have c4 := h1.cell 4
 simp only [List.getElem?_cons_zero, List.getElem?_cons_succ] at c0 c3 c4
 have hpa := h1.lt
 have husd : A.used ≤ 65536 := by unfold Ar.used; omega
 have hmk := run_make0 A.used w (by omega)
 have hown0 := owns_made (w := w) (e := 3) (cs := fnRow A.used (cellF fun _ => 0)) A.used (fnRow_len _ _) (by omega)
 have HO0 := Lib.hid hown0; clear hown0 h1
 have HLt := Lib.hid hlt; clear hlt
 have d3 : (w.alloc (.cells (fnRow A.used (cellF fun _ => 0)).toArray 3)).cell? ⟨pa, 3, none⟩ = some (.int .i64 A.begun) := ((Fr.refl [] w).alloc _).cell c3 (by simp)
 have HF0 : Hid (Fr [] w (w.alloc (.cells (fnRow A.used (cellF fun _ => 0)).toArray 3))) := Lib.hid ((Fr.refl [] w).alloc _)
 go_enter Tryz.func97, Tryz.ntmps97
 go_wp2_with (go_at_call 139; refine (arena_valid pa _ c0).mono ?_; rintro e w' ⟨rfl, rfl⟩)
 generalize w.alloc (.cells (fnRow A.used (cellF fun _ => 0)).toArray 3) = w1 at *
 clear c0 c3 c4 hmk d3
 go_loopw [3, 17] (fun v si wr => ∃ i : Nat, i ≤ A.begun ∧ si = .int .i64 i ∧ Hid (Fr [] w wr) ∧ wr.ownsRow 0 3 1 v (usedTo A i).length (encN (usedTo A i)) ∧ Hid (∀ q, v.ownBlock = some q → w.heap.size ≤ q)) (fun _ si _ => A.begun - (intOf si).toNat)
 case atStart => exact ⟨0, Nat.zero_le _, rfl, HF0, by simpa [usedTo, encN] using HO0.out, Lib.hid (fun q e => by simp [Value.ownBlock] at e; omega)⟩
 case round =>
  clear HO0 HF0
  obtain ⟨i, hi, rfl, HF, hown, HQ⟩ := hrel
  obtain ⟨a8, c8, rfl⟩ := ownsRow_slice hown
  by_cases hlt : i < A.begun
  {
  have hil : (i : Int) < A.begun := by omega
  have HSt := Lib.hid (arena_state (HA.out.fr HF.out (by simp)) hlt)
  have hul := usedTo_len A i
  by_cases hf : i ∈ A.free
  {
  have e1 : stI A i = 2 := by unfold stI; rw [if_pos hf]
  rw [e1] at HSt
  have Hu := Lib.hid (usedTo_succ_no hf); clear e1 hf
  go_wp2_with (go_at_call 140; refine HSt.out.mono ?_; rintro e w' ⟨rfl, rfl⟩)
  go_roundw
  case rel => exact ⟨i + 1, by omega, by go_num, HF, by rw [Hu.out]; exact hown, HQ⟩
  case measure => simp [intOf]; omega
  }
  {
  have e1 : stI A i = 1 := by unfold stI; rw [if_neg hf]
  rw [e1] at HSt
  have Hu := Lib.hid (usedTo_succ_yes hf); clear e1 hf
  generalize usedTo A i = us at *
  go_wp2_with (first | (go_at_call 140; refine HSt.out.mono ?_; rintro e w' ⟨rfl, rfl⟩) | (at_builtin; refine wpList_app1 rfl _ _ 94 rfl 3 (.int .i64 0) 8 Tryz.underlying94 Tryz.info3 rfl (.slice a8 us.length c8) us.length _ rfl (hown.alloc _) wr.heap.size (.int .i64 i) rfl (cell_new1 _ _ _ _ rfl) rfl (by omega) (by decide) ?_; intro g' cap' w4 hown4 hgrow4 hg4; have hF4 : Fr (Value.slice a8 us.length c8).ownBlock.toList wr w4 := ((Fr.refl _ _).alloc _).grown hgrow4 (fun q e => .inl (by simp [e]))))
  go_roundw
  case rel =>
   have hs4 := HF.out.size
   simp only [World.size_alloc] at hg4
   refine ⟨i + 1, by omega, by go_num, Lib.hid (HF.out.trans hF4 (fun q hq => .inr (HQ.out q (by simpa using hq)))), ?_, Lib.hid (fun q e => ?_)⟩
   {
   rw [Hu.out, List.length_append]
   have : encN (us ++ [i]) = encN us ++ [.int .i64 i] := by simp [encN]
   rw [this]; exact hown4
   }
   {
   simp only [Value.ownBlock, Option.some.injEq] at e
   subst e
   rcases hg4 with e | e
   · exact HQ.out _ e
   · omega
   }
  case measure => simp [intOf]; omega
  }
  }
  {
  obtain rfl : i = A.begun := by omega
  have Hown := Lib.hid hown; clear hown
  go_wp2
  go_ret
  exact ⟨_, rfl, Hown.out, HQ.out, HF.out⟩
  }
end Go.Proofs.YtgmnemndjjmgkaaGreat

/- A plain model of a store: its limits, the last sequence number, the slots, the vertices, the live edges by their sequence numbers. -/
namespace Go.Proofs.YtgmnemndjjmgkaaGreat
set_option maxRecDepth 10000
structure Lv where
  slot : Nat
  seq : Nat
  u : Nat
  v : Nat
  wt : Int
  t : Int
  x : Int
deriving DecidableEq
def Lv.z : Lv := ⟨0, 0, 0, 0, 0, 0, 0⟩
def Lv.at (e : Lv) (id : Nat) : Bool := e.u == id || e.v == id
def incL (L : List Lv) (id : Nat) : List Nat := (L.filter fun e => e.at id).map (·.slot)
def liveAt (L : List Lv) (i : Nat) : Lv := (L.find? fun e => e.slot == i).getD Lv.z
structure Sm where
  V : Nat
  E : Nat
  last : Nat
  A : Ar
  M : Md
  L : List Lv
namespace Sm
structure Ok (s : Sm) : Prop where
  ar : s.A.ok
  sl : s.A.slots = s.E
  md : s.M.Ok
  ms : s.M.slots = s.V
  used : ∀ i, s.A.isUsed i ↔ ∃ e ∈ s.L, e.slot = i
  one : (s.L.map (·.slot)).Nodup
  seq : s.L.Pairwise fun a b => a.seq < b.seq
  last : ∀ e ∈ s.L, e.seq ≤ s.last
  vert : ∀ id, (s.M.find id).isSome = true ↔ incL s.L id ≠ []
  ne : ∀ e ∈ s.L, e.u ≠ e.v
  u64 : ∀ e ∈ s.L, e.u < 18446744073709551616 ∧ e.v < 18446744073709551616
  leV : s.V ≤ 4096
  leE : s.E ≤ 16384
  lt : s.last < 18446744073709551616
def new (V E last : Nat) : Sm := { V := V, E := E, last := last, A := Ar.new E, M := Md.new V, L := [] }
def more (s : Sm) (u v : Nat) : Nat := (if (s.M.find u).isSome = true then 0 else 1) + if (s.M.find v).isSome = true then 0 else 1
def chk (s : Sm) (u v : Nat) : Nat := if u = v then 9 else if s.E ≤ s.A.used then 12 else if s.V < s.M.L.length + s.more u v then 11 else 0
def slot (s : Sm) : Nat := s.A.next.getD 0
def edge (s : Sm) (u v : Nat) (wt t x : Int) : Lv := ⟨s.slot, s.last + 1, u, v, wt, t, x⟩
def ins (s : Sm) (u v : Nat) (wt t x : Int) : Sm := { s with last := s.last + 1, A := s.A.alloc, M := ((s.M.put u).M.put v).M, L := s.L ++ [s.edge u v wt t x] }
def delIf (M : Md) (L : List Lv) (id : Nat) : Md := if incL L id = [] then (M.del id).M else M
def rem (s : Sm) (i : Nat) : Sm :=
  { s with A := s.A.put i, L := s.L.filter (fun e => e.slot != i), M := delIf (delIf s.M (s.L.filter fun e => e.slot != i) (liveAt s.L i).u) (s.L.filter fun e => e.slot != i) (liveAt s.L i).v }
end Sm
theorem incL_snoc (L : List Lv) (e : Lv) (id : Nat) : incL (L ++ [e]) id = incL L id ++ if e.at id then [e.slot] else [] := by
 unfold incL
 rw [List.filter_append, List.map_append]
 congr 1
 by_cases h : e.at id = true <;> simp [h]
theorem mem_incL {L : List Lv} {id i : Nat} : i ∈ incL L id ↔ ∃ e ∈ L, e.at id = true ∧ e.slot = i := by
 unfold incL
 simp [List.mem_map, List.mem_filter, and_assoc]
theorem incL_nodup {L : List Lv} (h : (L.map (·.slot)).Nodup) (id : Nat) : (incL L id).Nodup := (List.Sublist.map _ List.filter_sublist).nodup h
theorem incL_filter (L : List Lv) (id i : Nat) : incL (L.filter fun e => e.slot != i) id = (incL L id).filter (· != i) := by
 unfold incL
 rw [List.filter_map, List.filter_filter, List.filter_filter]
 congr 1
 exact List.filter_congr fun e _ => by simp [Bool.and_comm]
theorem incL_len (L : List Lv) (id : Nat) : (incL L id).length ≤ L.length := by
 unfold incL; rw [List.length_map]; exact List.length_filter_le _ _
theorem liveAt_mem {L : List Lv} (h : (L.map (·.slot)).Nodup) {e : Lv} (he : e ∈ L) : liveAt L e.slot = e := by
 unfold liveAt
 induction L with
 | nil => cases he
 | cons a r ih => {
 simp only [List.map_cons, List.nodup_cons] at h
 by_cases e0 : a.slot = e.slot
 {
 rcases List.mem_cons.1 he with rfl | he
 · simp
 · exact absurd (List.mem_map.2 ⟨_, he, e0.symm⟩) h.1
 }
 {
 rcases List.mem_cons.1 he with rfl | he
 · exact absurd rfl e0
 · rw [List.find?_cons_of_neg (by simpa using e0)]; exact ih h.2 he
 }
 }
theorem liveAt_none {L : List Lv} {i : Nat} (h : ∀ e ∈ L, e.slot ≠ i) : liveAt L i = Lv.z := by
 unfold liveAt
 rw [List.find?_eq_none.2 (fun e he => by simpa using h e he)]; rfl
theorem liveAt_snoc {L : List Lv} {e : Lv} (h : ∀ x ∈ L, x.slot ≠ e.slot) (i : Nat) : liveAt (L ++ [e]) i = if i = e.slot then e else liveAt L i := by
 unfold liveAt
 by_cases hi : i = e.slot
 {
 subst hi
 rw [if_pos rfl, List.find?_append, List.find?_eq_none.2 (fun x hx => by simpa using h x hx)]
 simp
 }
 {
 rw [if_neg hi, List.find?_append]
 have hn : (e.slot == i) = false := by simp; omega
 simp [hn]
 }
theorem liveAt_filter {L : List Lv} (i j : Nat) : liveAt (L.filter fun e => e.slot != i) j = if j = i then Lv.z else liveAt L j := by
 by_cases hj : j = i
 {
 subst hj
 rw [if_pos rfl]
 exact liveAt_none fun e he => by simpa using (List.mem_filter.1 he).2
 }
 {
 rw [if_neg hj]
 unfold liveAt
 rw [List.find?_filter]
 congr 1
 congr 1
 funext e
 by_cases he : e.slot = j
 · subst he; simp [hj]
 · simp [he]
 }
theorem ar_next_some {A : Ar} (h : A.used < A.slots) : ∃ i, A.next = some i := by
 obtain ⟨s, b, f⟩ := A
 cases f with
 | nil => {
 have hb : b < s := by simpa [Ar.used] using h
 exact ⟨b, if_pos hb⟩
 }
 | cons k r => exact ⟨k, rfl⟩
theorem ar_next_lt {A : Ar} (hok : A.ok) {i : Nat} (h : A.next = some i) : i < A.slots := by
 obtain ⟨s, b, f⟩ := A
 cases f with
 | nil => {
 simp only [Ar.next] at h
 split at h
 · cases h; assumption
 · cases h
 }
 | cons k r => {
 cases h
 exact Nat.lt_of_lt_of_le (hok.lt _ (List.mem_cons_self ..)) hok.hb
 }
theorem ar_put_ok {A : Ar} (h : A.ok) {k : Nat} (hu : A.isUsed k) : (A.put k).ok := by
 refine ⟨h.hs, h.hb, ?_, ?_⟩
 · simp only [Ar.put, List.nodup_cons]; exact ⟨hu.2, h.nd⟩
 {
 intro x hx; simp only [Ar.put, List.mem_cons] at hx
 rcases hx with rfl | hx
 · exact hu.1
 · exact h.lt x hx
 }
theorem ar_alloc_slots (A : Ar) : A.alloc.slots = A.slots := by
 obtain ⟨s, b, f⟩ := A; cases f <;> rfl
theorem md_slots_put (M : Md) (id : Nat) : (M.put id).M.slots = M.slots := by
 unfold Md.put
 cases M.find id with
 | some i => rfl
 | none => cases M.next <;> rfl
theorem md_slots_del (M : Md) (id : Nat) : (M.del id).M.slots = M.slots := by
 unfold Md.del
 cases M.find id <;> rfl
theorem md_next {M : Md} (h : M.Ok) (hl : M.L.length < M.slots) : ∃ i, M.next = some i := by
 have hc := h.cnt
 obtain ⟨s, L, f, g⟩ := M
 cases f with
 | nil => {
 have hb : g < s := by simp at hc hl; omega
 exact ⟨g, if_pos hb⟩
 }
 | cons k r => exact ⟨k, rfl⟩
def Fits (M : Md) (id : Nat) : Prop := (M.find id).isSome = true ∨ M.L.length < M.slots
theorem find_add {M : Md} (h : M.Ok) {id i : Nat} (hid : id < 18446744073709551616) (hf : M.find id = none) (hn : M.next = some i) (x : Nat) : (M.add id i).find x = if x = id then some i else M.find x := by
 have hok := Md.ok_add h hid hf hn
 by_cases hx : x = id
 {
 subst hx
 rw [if_pos rfl]
 exact (Md.find_iff hok).2 (by simp [Md.add])
 }
 {
 rw [if_neg hx]
 cases hy : M.find x with
 | some j => exact (Md.find_iff hok).2 (by have := Md.find_mem hy; simp [Md.add, this])
 | none => {
 refine Md.find_none.2 fun j hm => ?_
 simp only [Md.add, List.mem_append, List.mem_singleton, Prod.mk.injEq] at hm
 rcases hm with hm | ⟨e, _⟩
 · exact Md.find_none.1 hy j hm
 · exact hx e
 }
 }
theorem put_fits {M : Md} (h : M.Ok) {id : Nat} (hid : id < 18446744073709551616) (hf : Fits M id) :
    (M.put id).err = 0 ∧ (∀ x, ((M.put id).M.find x).isSome = true ↔ ((M.find x).isSome = true ∨ x = id)) ∧ (M.put id).M.L.length = M.L.length + (if (M.find id).isSome = true then 0 else 1) ∧ (M.put id).M.find id = some (M.put id).idx := by
 unfold Md.put
 cases hi : M.find id with
 | some i => {
 refine ⟨rfl, fun x => ⟨.inl, fun hx => hx.elim (fun h => h) fun e => ?_⟩, by simp, hi⟩
 subst e; rw [hi]; rfl
 }
 | none => {
 have hl : M.L.length < M.slots := hf.resolve_left (by rw [hi]; simp)
 obtain ⟨i, hn⟩ := md_next h hl
 simp only [hn]
 refine ⟨trivial, fun x => ?_, by simp [Md.add], by rw [find_add h hid hi hn, if_pos rfl]⟩
 rw [find_add h hid hi hn]
 by_cases hx : x = id
 · simp [hx]
 · simp [hx]
 }
theorem find_del {M : Md} (h : M.Ok) (id x : Nat) : ((M.del id).M.find x).isSome = true ↔ ((M.find x).isSome = true ∧ x ≠ id) := by
 unfold Md.del
 cases hi : M.find id with
 | none => {
 refine ⟨fun hx => ⟨hx, fun e => ?_⟩, fun hx => hx.1⟩
 subst e; rw [hi] at hx; cases hx
 }
 | some i => {
 have hok := Md.ok_rem h (Md.find_mem hi)
 simp only [Option.isSome_iff_exists]
 constructor
 {
 rintro ⟨j, hj⟩
 have hm := Md.find_mem hj
 simp only [Md.rem, List.mem_filter, bne_iff_ne] at hm
 exact ⟨⟨j, (Md.find_iff h).2 hm.1⟩, hm.2⟩
 }
 {
 rintro ⟨⟨j, hj⟩, hne⟩
 refine ⟨j, (Md.find_iff hok).2 ?_⟩
 simp only [Md.rem, List.mem_filter, bne_iff_ne]
 exact ⟨Md.find_mem hj, hne⟩
 }
 }
namespace Sm
section
variable {s : Sm}
theorem ok_new {V E last : Nat} (hV : V ≤ 4096) (hE : E ≤ 16384) (hl : last < 18446744073709551616) : (new V E last).Ok := by
 refine ⟨⟨by simp [new, Ar.new]; omega, by simp [new, Ar.new], by simp [new, Ar.new], by simp [new, Ar.new]⟩, rfl, Md.ok_new (by omega), rfl, fun i => ?_, by simp [new], by simp [new], by simp [new], fun id => ?_, by simp [new], by simp [new], hV, hE, hl⟩
 · simp [new, Ar.new, Ar.isUsed]
 · simp [new, Md.new, Md.find, incL]
theorem len_used (h : s.Ok) : s.A.used = s.L.length := by
 rw [← usedL_len h.ar]
 have := ((List.perm_ext_iff_of_nodup (nodup_usedL s.A) h.one).2 fun i => by rw [mem_usedL, h.used]; simp).length_eq
 rw [List.length_map] at this
 exact this
theorem chk_ok (_h : s.Ok) {u v : Nat} (hc : s.chk u v = 0) : u ≠ v ∧ s.A.used < s.E ∧ s.M.L.length + s.more u v ≤ s.V := by
 unfold chk at hc
 split at hc
 · cases hc
 {
 split at hc
 · cases hc
 {
 split at hc
 · cases hc
 · exact ⟨by assumption, by omega, by omega⟩
 }
 }
theorem slot_next (h : s.Ok) {u v : Nat} (hc : s.chk u v = 0) : s.A.next = some s.slot := by
 obtain ⟨i, hi⟩ := ar_next_some (A := s.A) (by rw [h.sl]; exact (chk_ok h hc).2.1)
 unfold slot; rw [hi]; rfl
theorem fits_uv (h : s.Ok) {u v : Nat} (hu : u < 18446744073709551616) (hc : s.chk u v = 0) : Fits s.M u ∧ Fits (s.M.put u).M v := by
 obtain ⟨hne, _, hle⟩ := chk_ok h hc
 unfold more at hle
 have hs := h.ms
 have h1 : Fits s.M u := by {
 unfold Fits
 by_cases hf : (s.M.find u).isSome = true
 · exact .inl hf
 · rw [if_neg hf] at hle; exact .inr (by omega)
 }
 obtain ⟨_, p2, p3, _⟩ := put_fits h.md hu h1
 refine ⟨h1, ?_⟩
 unfold Fits
 rw [p2, p3, md_slots_put]
 by_cases hf : (s.M.find v).isSome = true
 · exact .inl (.inl hf)
 {
 rw [if_neg hf] at hle
 refine .inr ?_
 omega
 }
theorem ok_ins (h : s.Ok) {u v : Nat} (hu : u < 18446744073709551616) (hv : v < 18446744073709551616) (hc : s.chk u v = 0) (hl : s.last + 1 < 18446744073709551616) (wt t x : Int) : (s.ins u v wt t x).Ok := by
 obtain ⟨hne, hlt, _⟩ := chk_ok h hc
 have hn := slot_next h hc
 obtain ⟨f1, f2⟩ := fits_uv h hu hc
 obtain ⟨hnu, hiff⟩ := Md.isUsed_alloc' h.ar hn
 have hnew : ∀ e ∈ s.L, e.slot ≠ s.slot := fun e he ee => hnu ((h.used _).2 ⟨e, he, ee⟩)
 obtain ⟨_, p2, _, _⟩ := put_fits h.md hu f1
 have hok1 := Md.ok_put h.md hu
 obtain ⟨_, q2, _, _⟩ := put_fits hok1 hv f2
 refine ⟨Md.alloc_ok h.ar hn, (ar_alloc_slots _).trans h.sl, Md.ok_put hok1 hv, (md_slots_put _ _).trans ((md_slots_put _ _).trans h.ms), fun i => ?_, ?_, ?_, ?_, fun id => ?_, ?_, ?_, h.leV, h.leE, hl⟩
 {
 simp only [ins]
 rw [hiff, h.used]
 simp only [List.mem_append, List.mem_singleton]
 constructor
 {
 rintro (⟨e, he, rfl⟩ | rfl)
 · exact ⟨e, .inl he, rfl⟩
 · exact ⟨_, .inr rfl, rfl⟩
 }
 {
 rintro ⟨e, he | rfl, rfl⟩
 · exact .inl ⟨e, he, rfl⟩
 · exact .inr rfl
 }
 }
 {
 simp only [ins, List.map_append, List.map_cons, List.map_nil, List.nodup_append]
 refine ⟨h.one, by simp, fun a ha b hb e => ?_⟩
 simp only [List.mem_singleton] at hb
 obtain ⟨x, hx, rfl⟩ := List.mem_map.1 ha
 exact hnew x hx (e.trans hb)
 }
 {
 simp only [ins]
 rw [List.pairwise_append]
 refine ⟨h.seq, by simp, fun a ha b hb => ?_⟩
 obtain rfl := List.mem_singleton.1 hb
 exact Nat.lt_succ_of_le (h.last a ha)
 }
 {
 intro e he
 simp only [ins, List.mem_append, List.mem_singleton] at he
 rcases he with he | rfl
 · exact Nat.le_succ_of_le (h.last e he)
 · exact Nat.le_refl _
 }
 {
 simp only [ins]
 rw [q2, p2, h.vert, incL_snoc]
 have hat : (s.edge u v wt t x).at id = true ↔ u = id ∨ v = id := by simp [Lv.at, edge]
 by_cases h1 : (s.edge u v wt t x).at id = true
 {
 rw [if_pos h1]
 refine ⟨fun _ => by simp, fun _ => ?_⟩
 rcases hat.1 h1 with e | e
 · exact .inl (.inr e.symm)
 · exact .inr e.symm
 }
 {
 rw [if_neg h1, List.append_nil]
 refine ⟨fun h2 => ?_, fun h2 => .inl (.inl h2)⟩
 rcases h2 with (h2 | h2) | h2
 · exact h2
 · exact absurd (hat.2 (.inl h2.symm)) h1
 · exact absurd (hat.2 (.inr h2.symm)) h1
 }
 }
 {
 intro e he
 simp only [ins, List.mem_append, List.mem_singleton] at he
 rcases he with he | rfl
 · exact h.ne e he
 · exact hne
 }
 {
 intro e he
 simp only [ins, List.mem_append, List.mem_singleton] at he
 rcases he with he | rfl
 · exact h.u64 e he
 · exact ⟨hu, hv⟩
 }
theorem live_used (h : s.Ok) {i : Nat} (hu : s.A.isUsed i) : liveAt s.L i ∈ s.L ∧ (liveAt s.L i).slot = i := by
 obtain ⟨e, he, rfl⟩ := (h.used i).1 hu
 rw [liveAt_mem h.one he]
 exact ⟨he, rfl⟩
theorem delIf_ok {M : Md} (h : M.Ok) (L : List Lv) (id : Nat) : (delIf M L id).Ok := by
 unfold delIf; split
 · exact Md.ok_del h id
 · exact h
theorem delIf_slots (M : Md) (L : List Lv) (id : Nat) : (delIf M L id).slots = M.slots := by
 unfold delIf; split
 · exact md_slots_del M id
 · rfl
theorem delIf_find {M : Md} (h : M.Ok) (L : List Lv) (id x : Nat) : ((delIf M L id).find x).isSome = true ↔ ((M.find x).isSome = true ∧ (x = id → incL L id ≠ [])) := by
 unfold delIf; split
 {
 rename_i hn
 rw [find_del h]
 refine and_congr_right fun _ => ⟨fun h1 h2 => absurd h2 h1, fun h1 h2 => h1 h2 hn⟩
 }
 {
 rename_i hn
 exact ⟨fun h1 => ⟨h1, fun _ => hn⟩, fun h1 => h1.1⟩
 }
theorem ok_rem (h : s.Ok) {i : Nat} (hu : s.A.isUsed i) : (s.rem i).Ok := by
 obtain ⟨hm, hs⟩ := live_used h hu
 have hiff := Md.isUsed_put' hu
 have ho1 := delIf_ok h.md (s.L.filter fun e => e.slot != i) (liveAt s.L i).u
 refine ⟨ar_put_ok h.ar hu, h.sl, delIf_ok ho1 _ _, ?_, fun j => ?_, (List.Sublist.map _ List.filter_sublist).nodup h.one, h.seq.sublist List.filter_sublist, fun e he => h.last e (List.mem_filter.1 he).1, fun id => ?_, fun e he => h.ne e (List.mem_filter.1 he).1, fun e he => h.u64 e (List.mem_filter.1 he).1, h.leV, h.leE, h.lt⟩
 · simp only [rem, delIf_slots]; exact h.ms
 {
 simp only [rem]
 rw [hiff, h.used]
 simp only [List.mem_filter, bne_iff_ne]
 constructor
 · rintro ⟨⟨e, he, rfl⟩, hj⟩; exact ⟨e, ⟨he, hj⟩, rfl⟩
 · rintro ⟨e, ⟨he, hj⟩, rfl⟩; exact ⟨⟨e, he, rfl⟩, hj⟩
 }
 {
 simp only [rem]
 rw [delIf_find ho1, delIf_find h.md, h.vert]
 constructor
 {
 rintro ⟨⟨h1, h2⟩, h3⟩
 by_cases e1 : id = (liveAt s.L i).u
 · rw [e1]; exact h2 e1
 {
 by_cases e2 : id = (liveAt s.L i).v
 · rw [e2]; exact h3 e2
 {
 intro e3
 apply h1
 refine List.eq_nil_iff_forall_not_mem.2 fun k hk => ?_
 rw [incL_filter] at e3
 have hki : k = i := by {
 apply Classical.byContradiction
 intro hne
 have : k ∈ (incL s.L id).filter (· != i) := List.mem_filter.2 ⟨hk, by simpa using hne⟩
 rw [e3] at this; cases this
 }
 subst hki
 obtain ⟨e, he, hat, hes⟩ := mem_incL.1 hk
 have : e = liveAt s.L k := by rw [← hes, liveAt_mem h.one he]
 subst this
 unfold Lv.at at hat
 simp only [Bool.or_eq_true, beq_iff_eq] at hat
 rcases hat with hat | hat
 · exact e1 hat.symm
 · exact e2 hat.symm
 }
 }
 }
 {
 intro h1
 refine ⟨⟨fun e => h1 ?_, fun e => e ▸ h1⟩, fun e => e ▸ h1⟩
 rw [incL_filter, e]; rfl
 }
 }
end
end Sm
end Go.Proofs.YtgmnemndjjmgkaaGreat

namespace Go.Proofs.YtgmnemndjjmgkaaGreat
open Go.RowKit Go.Maps
def tokR (ok : Value → Bool) (v : Value) : Option (DataW Value × List MemPlace) := if ok v then some (.held v, []) else none
theorem tokR_mk {ok : Value → Bool} {v : Value} (h : ok v = true) : tokR ok v = some (.held v, []) := by simp [tokR, h]
theorem tokR_inv {ok : Value → Bool} {v u : Value} {ps : List MemPlace} (h : tokR ok v = some (.held u, ps)) : v = u := by
 unfold tokR at h
 split at h
 · simp only [Option.some.injEq, Prod.mk.injEq, DataW.held.injEq] at h; exact h.1
 · cases h
theorem ownsMap_tight {H : Type} {w : World} {P : Program} {k : TypeId} {R : Value → Option (DataW H × List MemPlace)} {b n : Nat} {D : DataW H} (h : w.ownsMap P k R b n D) : w.ownsMap P k R b (Maps.size D) D := by
 obtain ⟨es, clock, hb, F, _, rfl⟩ := h
 exact ⟨es, clock, hb, F, by simp [Maps.size, length_sorted], rfl⟩
theorem ownsMap_same {H : Type} {w w' : World} {P : Program} {k : TypeId} {R : Value → Option (DataW H × List MemPlace)} {b n : Nat} {D : DataW H} (h : w.ownsMap P k R b n D) (e : w'.heap[b]? = w.heap[b]?) : w'.ownsMap P k R b n D := by
 obtain ⟨es, clock, hb, r⟩ := h
 exact ⟨es, clock, e.trans hb, r⟩
def updM (m : Int → Option Value) (a : Int) (v : Option Value) : Int → Option Value := fun x => if x = a then v else m x
theorem updM_same (m : Int → Option Value) (a : Int) (v : Option Value) : updM m a v a = v := by simp [updM]
theorem updM_other {m : Int → Option Value} {a x : Int} {v : Option Value} (h : x ≠ a) : updM m a v x = m x := by simp [updM, h]
def IMap (P : Program) (k : TypeId) (q : IntKind) (ok : Value → Bool) (w : World) (b : Nat) (m : Int → Option Value) (n : Nat) : Prop :=
  ∃ D : DataW Value, w.ownsMap P k (tokR ok) b n D ∧ Tidy D ∧ Maps.size D = n ∧
    ∀ a : Int, (Lit.int q a).wf = true → (Maps.has D (.int q a) = (m a).isSome ∧ ∀ v, m a = some v → ok v = true ∧ ∀ z, D.atKey (.int q a) z = .held v)
section
variable {P : Program} {k t e : TypeId} {q : IntKind} {ok : Value → Bool} {w w' : World} {b n : Nat} {m : Int → Option Value}
theorem IMap.same (h : IMap P k q ok w b m n) (he : w'.heap[b]? = w.heap[b]?) : IMap P k q ok w' b m n := by
 obtain ⟨D, h1, h2⟩ := h
 exact ⟨D, ownsMap_same h1 he, h2⟩
theorem IMap.lt (h : IMap P k q ok w b m n) : b < w.heap.size := by obtain ⟨D, h1, _⟩ := h; exact h1.lt
theorem IMap.made (w : World) (P : Program) (k : TypeId) (q : IntKind) (ok : Value → Bool) : IMap P k q ok (w.alloc (.map #[] 0)) w.heap.size (fun _ => none) 0 :=
  ⟨_, World.ownsMap_made w P k (tokR ok), tidy_empty, rfl, fun _ _ => ⟨rfl, fun _ h => by cases h⟩⟩
theorem IMap.run_get (h : IMap P k q ok w b m n) (hk : P.underlying k = some (.int q)) (ht : P.underlying t = some (.map k e)) {z : Value} (hz : (zeroValue e).run P w = .ok z w) (hzo : ok z = true) {a : Int} (ha : (Lit.int q a).wf = true) :
    (Instr.lookup t (.map (some b)) (.int q a) false).run P w = .ok ((m a).getD z) w := by
 obtain ⟨D, h1, h2, _, h3⟩ := h
 obtain ⟨v, ps, hr, hv⟩ := h1.lookup (int_keyed hk) ht hz (tokR_mk hzo) (keyOf_int_mk hk ha)
 rw [hr]
 cases hm : m a with
 | some u => {
 rw [((h3 a ha).2 u hm).2] at hv
 rw [tokR_inv hv]; rfl
 }
 | none => {
 have hn := (h3 a ha).1
 rw [hm] at hn
 rw [atKey_of_not_has hn] at hv
 rw [tokR_inv hv]; rfl
 }
theorem IMap.run_ok (h : IMap P k q ok w b m n) (hk : P.underlying k = some (.int q)) (ht : P.underlying t = some (.map k e)) {z : Value} (hz : (zeroValue e).run P w = .ok z w) (hzo : ok z = true) {a : Int} (ha : (Lit.int q a).wf = true) :
    (Instr.lookup t (.map (some b)) (.int q a) true).run P w = .ok (.tuple #[(m a).getD z, .bool (m a).isSome]) w := by
 obtain ⟨D, h1, h2, _, h3⟩ := h
 obtain ⟨v, ps, hr, hv⟩ := h1.look_ok (int_keyed hk) ht hz (tokR_mk hzo) (keyOf_int_mk hk ha)
 rw [hr, (h3 a ha).1]
 cases hm : m a with
 | some u => {
 rw [((h3 a ha).2 u hm).2] at hv
 rw [tokR_inv hv]; rfl
 }
 | none => {
 have hn := (h3 a ha).1
 rw [hm] at hn
 rw [atKey_of_not_has hn] at hv
 rw [tokR_inv hv]; rfl
 }
theorem Fr.of_turned (h : w.mapTurned w' b) : Fr [b] w w' := (Fr.refl [b] w).grown h.grown (fun k e => .inl (by simp at e; simp [e]))
theorem keyLit_int (q : IntKind) (a : Int) : WideAt.IsKeyLit (.int q a) := trivial
theorem IMap.put (h : IMap P k q ok w b m n) (hk : P.underlying k = some (.int q)) (ht : P.underlying t = some (.map k e)) (hn : n < maxLen) {a : Int} (ha : (Lit.int q a).wf = true) {v : Value} (hv : ok v = true) :
    ∃ w', (Instr.mapUpdate t (.map (some b)) (.int q a) v).run P w = .ok () w' ∧ IMap P k q ok w' b (updM m a (some v)) (if (m a).isSome then n else n + 1) ∧ Fr [b] w w' := by
 obtain ⟨D, h1, h2, hs, h3⟩ := h
 obtain ⟨w', hr, h1', hT⟩ := h1.store (int_keyed hk) ht hn (keyOf_int_mk hk ha) (tokR_mk hv)
 refine ⟨w', hr, ⟨D.put (.int q a) (.held v), ?_, h2.put (keyLit_int q a) _, ?_, fun x hx => ?_⟩, Fr.of_turned hT⟩
 {
 have := ownsMap_tight h1'
 rw [size_put h2, (h3 a ha).1, hs] at this
 exact this
 }
 · rw [size_put h2, (h3 a ha).1, hs]
 {
 by_cases e : x = a
 {
 subst e
 rw [updM_same]
 refine ⟨has_put_same h2.isMap (keyLit_int q x) _, fun u hu => ?_⟩
 cases hu
 exact ⟨hv, fun z => atKey_put_same h2.isMap (keyLit_int q x) _ z⟩
 }
 {
 have hne : (Lit.int q x) ≠ .int q a := fun h => e (by injection h)
 rw [updM_other e, has_put_other hne]
 exact ⟨(h3 x hx).1, fun u hu => ⟨((h3 x hx).2 u hu).1, fun z => by rw [atKey_put_other hne]; exact ((h3 x hx).2 u hu).2 z⟩⟩
 }
 }
theorem IMap.del (h : IMap P k q ok w b m n) (hk : P.underlying k = some (.int q)) (ht : P.underlying t = some (.map k e)) {a : Int} (ha : (Lit.int q a).wf = true) (ty : TypeId) :
    ∃ w', (Builtin.delete_ #[t, k] ty #[.map (some b), .int q a]).run P w = .ok (.tuple #[]) w' ∧ IMap P k q ok w' b (updM m a none) (if (m a).isSome then n - 1 else n) ∧ Fr [b] w w' := by
 obtain ⟨D, h1, h2, hs, h3⟩ := h
 obtain ⟨w', hr, h1', hT⟩ := h1.drop (int_keyed hk) ht (keyOf_int_mk hk ha) ty
 have hsz : Maps.size (D.del (.int q a)) = if (m a).isSome then n - 1 else n := by {
 have := size_del (k := .int q a) h2
 rw [(h3 a ha).1, hs] at this
 cases hm : (m a).isSome <;> rw [hm] at this <;> simp at this ⊢ <;> omega
 }
 refine ⟨w', hr, ⟨D.del (.int q a), ?_, h2.del _, hsz, fun x hx => ?_⟩, Fr.of_turned hT⟩
 {
 have := ownsMap_tight h1'
 rw [hsz] at this
 exact this
 }
 {
 by_cases e : x = a
 {
 subst e
 rw [updM_same]
 exact ⟨has_del_same, fun u hu => by cases hu⟩
 }
 {
 have hne : (Lit.int q x) ≠ .int q a := fun h => e (by injection h)
 rw [updM_other e, has_del_other hne]
 exact ⟨(h3 x hx).1, fun u hu => ⟨((h3 x hx).2 u hu).1, fun z => by rw [atKey_del_other hne]; exact ((h3 x hx).2 u hu).2 z⟩⟩
 }
 }
end
theorem wpList_imap_put {P : Program} {w : World} {ops : Array Oper} {rest : List Oper} {o : Oper} {act : Act} {Q : Exit → Act → World → Prop} (hg : o.guard = none) (mo x v : Operand) (t : TypeId) (hop : o.op = Op.mapUpdate t mo x v)
    {k e : TypeId} {q : IntKind} {ok : Value → Bool} {b n : Nat} {m : Int → Option Value} (h : IMap P k q ok w b m n) (hk : P.underlying k = some (.int q)) (ht : P.underlying t = some (.map k e)) (hn : n < maxLen)
    (hm : act.eval mo = .map (some b)) (a : Int) (hx : act.eval x = .int q a) (ha : (Lit.int q a).wf = true) (u : Value) (hv : act.eval v = u) (hu : ok u = true)
    (hK : ∀ w', IMap P k q ok w' b (updM m a (some u)) (if (m a).isSome then n else n + 1) → Fr [b] w w' → wpList P ops Q rest (act.put o.dst undef) w') : wpList P ops Q (o :: rest) act w := by
 refine wpList_plain hg fun K' hK' => ?_
 obtain ⟨w', hrun, r1, r2⟩ := h.put hk ht hn ha hu
 unfold Oper.wp
 simp [execOp, hop, hm, hx, hv, hrun, Result.andThen]
 exact hK' _ _ (hK w' r1 r2)
end Go.Proofs.YtgmnemndjjmgkaaGreat
