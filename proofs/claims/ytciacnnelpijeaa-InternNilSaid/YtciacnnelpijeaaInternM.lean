/- The contracts of package intern over the plain model. -/
import Derived.Test.YtciacnnelpijeaaInternNew
import Derived.Test.YtciacnnelpijeaaModel
namespace Go.Proofs.Ytciacnnelpijeaa
open Go.RowKit

def TabM (w : World) (pt : Nat) (M : Md) (l : List Nat) : Prop :=
  ∃ T, TableAt w pt T l ∧ T.A = M.ar ∧ M.Ok ∧ ∀ id i, (id, i) ∈ M.L ↔ (T.used i ∧ T.ids i = id)

theorem TabM.ok {w : World} {pt : Nat} {M : Md} {l : List Nat} (h : TabM w pt M l) : M.Ok := by obtain ⟨_, _, _, h, _⟩ := h; exact h
theorem TabM.lt {w : World} {pt : Nat} {M : Md} {l : List Nat} (h : TabM w pt M l) : ∀ b ∈ l, b < w.heap.size := by obtain ⟨_, h, _⟩ := h; exact h.lt
theorem TabM.fr {w w' : World} {pt : Nat} {M : Md} {l S : List Nat} (h : TabM w pt M l) (hf : Fr S w w') (hd : ∀ b ∈ l, b ∉ S) : TabM w' pt M l := by
  obtain ⟨T, h, r⟩ := h; exact ⟨T, h.fr hf hd, r⟩
theorem TabM.below {w w' : World} {pt : Nat} {M : Md} {l : List Nat} (h : TabM w pt M l) (hf : Below w.heap.size w w') : TabM w' pt M l :=
  h.fr (Fr.of_below hf) (by simp)
theorem TabM.eqv {w w' : World} {pt : Nat} {M : Md} {l : List Nat} (h : TabM w pt M l) (he : Eqv w' w) : TabM w' pt M l :=
  h.fr (he.fr (Fr.refl [] w)) (by simp)

/-- What a call that may change one object leaves: its new blocks are old ones of its own, or new. -/
def Next (l l' : List Nat) (w w' : World) : Prop := Fr l w w' ∧ ∀ b ∈ l', b ∈ l ∨ w.heap.size ≤ b

theorem Next.refl (l : List Nat) (w : World) : Next l l w w := ⟨Fr.refl _ _, fun _ h => .inl h⟩
theorem Next.trans {l l' l'' : List Nat} {w w' w'' : World} (h : Next l l' w w') (k : Next l' l'' w' w'') : Next l l'' w w'' :=
  ⟨h.1.trans k.1 h.2, fun b hb => (k.2 b hb).elim (h.2 b) (fun hb => .inr (Nat.le_trans h.1.size hb))⟩
theorem Next.of_below {l : List Nat} {w w' : World} (h : Below w.heap.size w w') : Next l l w w' := ⟨(Fr.of_below h).mono (by simp), fun _ h => .inl h⟩

theorem tab_new (slots : Nat) (w : World) (h : slots ≤ 65536) :
    Calls Try.prog 14 #[.int .i64 slots] w fun e w' => ∃ pt, e = .returned (.tuple #[ptr pt, .int .i64 0]) ∧ ∃ l, TabM w' pt (Md.new slots) l ∧ Next [] l w w' := by
  refine (table_new slots w h).mono ?_
  rintro e w' ⟨pt, rfl, l, hT, hF, hl⟩
  refine ⟨pt, rfl, l, ⟨_, hT, rfl, Md.ok_new h, fun id i => ?_⟩, hF, fun b hb => .inr (hl b hb)⟩
  simp only [Md.new, List.not_mem_nil, false_iff, not_and]
  intro hu; exact absurd hu.1 (Nat.not_lt_zero _)

theorem tab_put {w : World} {pt : Nat} {M : Md} {l : List Nat} (id : Nat) (hid : id < 18446744073709551616) (h : TabM w pt M l) :
    Calls Try.prog 16 #[ptr pt, .int .u64 id] w fun e w' => e = .returned (.tuple #[.int .i64 (M.put id).idx, .bool (M.put id).added, .int .i64 (M.put id).err]) ∧
      ∃ l', TabM w' pt (M.put id).M l' ∧ Next l l' w w' := by
  have h0 := h
  obtain ⟨T, hT, hA, hok, hiff⟩ := h
  cases hf : M.find id with
  | some i =>
    have hm := (hiff id i).1 (Md.find_mem hf)
    have e : M.put id = ⟨i, false, 0, M⟩ := by simp only [Md.put, hf]
    rw [e]
    refine (table_put_there hid hT hm.1 hm.2).mono ?_
    rintro e w' ⟨rfl, hB⟩
    exact ⟨rfl, l, h0.below hB, Next.of_below hB⟩
  | none =>
    have hno : ∀ i, T.used i → T.ids i ≠ id := fun i hu e => Md.find_none.1 hf i ((hiff id i).2 ⟨hu, e⟩)
    cases hn : M.next with
    | none =>
      have e : M.put id = ⟨0, false, 4, M⟩ := by simp only [Md.put, hf, hn]
      rw [e]
      refine (table_put_full hid hT hno (by rw [hA, Md.ar_next]; exact hn)).mono ?_
      rintro e w' ⟨rfl, hB⟩
      exact ⟨rfl, l, h0.below hB, Next.of_below hB⟩
    | some i =>
      have e : M.put id = ⟨i, true, 0, M.add id i⟩ := by simp only [Md.put, hf, hn]
      rw [e]
      have hn' : T.A.next = some i := by rw [hA, Md.ar_next]; exact hn
      refine (table_put_new hid hT hno hn').mono ?_
      rintro e w' ⟨rfl, l', hT', hF, hs⟩
      refine ⟨rfl, l', ⟨T.put id i, hT', ?_, Md.ok_add hok hid hf hn, fun id' j => ?_⟩, hF, hs⟩
      · rw [Md.ar_add hn, ← hA]; rfl
      · have hu := isUsed_alloc (by rw [hA]; exact hok.ar) hn'
        simp only [Md.add, List.mem_append, List.mem_singleton, Prod.mk.injEq, hiff]
        have hu2 : (T.put id i).used j ↔ (T.used j ∨ j = i) := hu.2 j
        rw [hu2]
        simp only [Tb.put]
        constructor
        · rintro (⟨h1, h2⟩ | ⟨rfl, rfl⟩)
          · have : j ≠ i := fun e => hu.1 (e ▸ h1)
            rw [updN_other this]; exact ⟨.inl h1, h2⟩
          · rw [updN_same]; exact ⟨.inr rfl, rfl⟩
        · rintro ⟨h1, h2⟩
          by_cases e : j = i
          · rw [e, updN_same] at h2; exact .inr ⟨h2.symm, e⟩
          · rw [updN_other e] at h2; exact .inl ⟨h1.resolve_right e, h2⟩

theorem tab_del {w : World} {pt : Nat} {M : Md} {l : List Nat} (id : Nat) (hid : id < 18446744073709551616) (h : TabM w pt M l) :
    Calls Try.prog 15 #[ptr pt, .int .u64 id] w fun e w' => e = .returned (.int .i64 (M.del id).err) ∧ TabM w' pt (M.del id).M l ∧ Next l l w w' := by
  have h0 := h
  obtain ⟨T, hT, hA, hok, hiff⟩ := h
  cases hf : M.find id with
  | none =>
    have hno : ∀ i, T.used i → T.ids i ≠ id := fun i hu e => Md.find_none.1 hf i ((hiff id i).2 ⟨hu, e⟩)
    have e : M.del id = ⟨5, M⟩ := by simp only [Md.del, hf]
    rw [e]
    refine (table_del_none hid hT hno).mono ?_
    rintro e w' ⟨rfl, hB⟩
    exact ⟨rfl, h0.below hB, Next.of_below hB⟩
  | some i =>
    have hm := (hiff id i).1 (Md.find_mem hf)
    have e : M.del id = ⟨0, M.rem id i⟩ := by simp only [Md.del, hf]
    rw [e]
    refine (table_del hid hT hm.1 hm.2).mono ?_
    rintro e w' ⟨rfl, hT', hF⟩
    refine ⟨rfl, ⟨T.del i, hT', ?_, Md.ok_rem hok (Md.find_mem hf), fun id' j => ?_⟩, hF, fun _ h => .inl h⟩
    · rw [Md.ar_rem, ← hA]; rfl
    · have hu2 : (T.del i).used j ↔ (T.used j ∧ j ≠ i) := isUsed_put hm.1 j
      simp only [Md.rem, List.mem_filter, bne_iff_ne, hiff]
      rw [hu2]
      simp only [Tb.del]
      constructor
      · rintro ⟨⟨h1, h2⟩, h3⟩
        have e : j ≠ i := by rintro rfl; exact h3 (h2.symm.trans hm.2)
        rw [updN_other e]; exact ⟨⟨h1, e⟩, h2⟩
      · rintro ⟨⟨h1, h3⟩, h2⟩
        rw [updN_other h3] at h2
        refine ⟨⟨h1, h2⟩, fun e => ?_⟩
        have a1 := (hiff id j).2 ⟨h1, h2.trans e⟩
        have a2 := Md.mem_find hok.ids a1
        rw [hf] at a2
        exact h3 (by simpa using a2.symm)

theorem tab_get {w : World} {pt : Nat} {M : Md} {l : List Nat} (id : Nat) (hid : id < 18446744073709551616) (h : TabM w pt M l) :
    Calls Try.prog 22 #[ptr pt, .int .u64 id] w fun e w' => e = .returned (.tuple #[.int .i64 ((M.find id).getD 0), .bool (M.find id).isSome]) ∧ TabM w' pt M l ∧ Below w.heap.size w w' := by
  have h0 := h
  obtain ⟨T, hT, hA, hok, hiff⟩ := h
  cases hf : M.find id with
  | none =>
    have hno : ∀ i, T.used i → T.ids i ≠ id := fun i hu e => Md.find_none.1 hf i ((hiff id i).2 ⟨hu, e⟩)
    refine (table_get_no hid hT hno).mono ?_
    rintro e w' ⟨rfl, hB⟩
    exact ⟨rfl, h0.below hB, hB⟩
  | some i =>
    have hm := (hiff id i).1 (Md.find_mem hf)
    refine (table_get_yes hid hT hm.1 hm.2).mono ?_
    rintro e w' ⟨rfl, hB⟩
    exact ⟨rfl, h0.below hB, hB⟩

def Md.at (M : Md) (i : Int) : Option Nat := if 0 ≤ i then M.idOf i.toNat else none

theorem tab_id {w : World} {pt : Nat} {M : Md} {l : List Nat} (i : Int) (h : TabM w pt M l) :
    Calls Try.prog 19 #[ptr pt, .int .i64 i] w fun e w' => e = .returned (.tuple #[.int .u64 ((M.at i).getD 0), .bool (M.at i).isSome]) ∧ w = w' := by
  obtain ⟨T, hT, hA, hok, hiff⟩ := h
  unfold Md.at
  by_cases hi : 0 ≤ i
  · obtain ⟨k, rfl⟩ := Int.eq_ofNat_of_zero_le hi
    rw [if_pos hi]
    cases hf : M.idOf (k : Int).toNat with
    | some id =>
      have hm := (hiff id k).1 (by simpa using Md.idOf_mem hf)
      refine (table_id_yes hT hm.1).mono ?_
      rintro e w' ⟨rfl, rfl⟩
      rw [hm.2]; exact ⟨rfl, rfl⟩
    | none =>
      refine (table_id_no hT ?_).mono ?_
      · rintro ⟨_, hu⟩
        simp only [Int.toNat_natCast] at hu hf
        exact Md.idOf_none.1 hf _ ((hiff _ k).2 ⟨hu, rfl⟩)
      · rintro e w' ⟨rfl, rfl⟩; exact ⟨rfl, rfl⟩
  · rw [if_neg hi]
    refine (table_id_no hT (fun h => hi h.1)).mono ?_
    rintro e w' ⟨rfl, rfl⟩; exact ⟨rfl, rfl⟩

theorem tab_len {w : World} {pt : Nat} {M : Md} {l : List Nat} (h : TabM w pt M l) :
    Calls Try.prog 17 #[ptr pt] w fun e w' => e = .returned (.int .i64 M.L.length) ∧ w = w' := by
  obtain ⟨T, hT, hA, hok, hiff⟩ := h
  refine (table_len hT).mono ?_
  rintro e w' ⟨rfl, rfl⟩
  refine ⟨ret_int ?_, rfl⟩
  have := hok.cnt
  rw [hA]; simp only [Md.ar, Ar.used]; omega

end Go.Proofs.Ytciacnnelpijeaa
