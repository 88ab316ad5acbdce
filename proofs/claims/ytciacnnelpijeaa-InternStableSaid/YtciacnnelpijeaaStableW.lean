/- InternStable: the plain law, and the walk. -/
import Derived.Test.YtciacnnelpijeaaReusesW
import Derived.Test.YtciacnnelpijeaaOneWrite
namespace Go.Proofs.Ytciacnnelpijeaa
open Go.RowKit

namespace Md
theorem find_append (L L' : List (Nat × Nat)) (s g : Nat) (fr : List Nat) (y i : Nat) (h : ({ slots := s, L := L, free := fr, given := g } : Md).find y = some i) (s' g' : Nat) (fr' : List Nat) :
    ({ slots := s', L := L ++ L', free := fr', given := g' } : Md).find y = some i := by
  unfold find at *
  simp only [Option.map_eq_some_iff] at *
  obtain ⟨x, hx, e⟩ := h
  exact ⟨x, by simp [List.find?_append, hx], e⟩
theorem find_add {M : Md} {x i y j : Nat} (h : M.find y = some j) : (M.add x i).find y = some j := by
  obtain ⟨s, L, fr, g⟩ := M
  exact find_append L _ s g fr y j h _ _ _
theorem find_put {M : Md} {x y j : Nat} (h : M.find y = some j) : (M.put x).M.find y = some j := by
  unfold put
  cases M.find x with
  | some i => exact h
  | none => cases M.next with
    | none => exact h
    | some i => exact find_add h
theorem find_rem {M : Md} {x i y : Nat} (h : y ≠ x) : (M.rem x i).find y = M.find y := by
  unfold find rem
  simp only
  congr 1
  induction M.L with
  | nil => rfl
  | cons a r ih =>
    by_cases e : a.1 = x
    · rw [List.filter_cons_of_neg (by simp [e]), ih, List.find?_cons_of_neg (by simp [e]; exact fun h' => h h'.symm)]
    · rw [List.filter_cons_of_pos (by simp [e])]
      by_cases e2 : a.1 = y
      · rw [List.find?_cons_of_pos (by simp [e2]), List.find?_cons_of_pos (by simp [e2])]
      · rw [List.find?_cons_of_neg (by simp [e2]), List.find?_cons_of_neg (by simp [e2]), ih]
theorem find_del {M : Md} {x y : Nat} (h : y ≠ x) : (M.del x).M.find y = M.find y := by
  unfold del
  cases M.find x with
  | none => rfl
  | some i => exact find_rem h
theorem put_len {M : Md} {x : Nat} : (M.put x).M.L.length ≤ M.L.length + 1 := by
  unfold put
  cases M.find x with
  | some i => simp
  | none => cases M.next with
    | none => simp
    | some i => simp [add]
theorem put_slots {M : Md} {x : Nat} : (M.put x).M.slots = M.slots := by
  unfold put
  cases M.find x with
  | some i => rfl
  | none => cases M.next with
    | none => rfl
    | some i => rfl
theorem put_ok {M : Md} (h : M.Ok) {x : Nat} (hl : M.L.length < M.slots) : (M.put x).err = 0 := by
  unfold put
  cases M.find x with
  | some i => rfl
  | none =>
    cases hn : M.next with
    | some i => rfl
    | none =>
      exfalso
      unfold next at hn
      have hc := h.cnt
      cases hf : M.free with
      | cons k r => rw [hf] at hn; cases hn
      | nil =>
        rw [hf] at hn hc
        simp only at hn
        simp only [List.length_nil] at hc
        by_cases hg : M.given < M.slots
        · rw [if_pos hg] at hn; cases hn
        · omega
end Md

set_option maxRecDepth 10000
set_option maxHeartbeats 400000

theorem in_w (w : World) (bI len cap x : Nat) (a : Option Addr) (f : Nat → Nat) (hI : w.cell? ⟨bI, 0, none⟩ = some (.slice a len cap)) (hR : RowF .u64 w a len f) (hl : len ≤ 300) (b : Bool) (hb : b = true ↔ ∃ j, j < len ∧ f j = x) :
    Calls Try.prog 20 #[.int .u64 x, ptr bI] w fun e w' => e = .returned (.bool b) ∧ w = w' := by
  have HR := Lib.hid hR; clear hR
  have HB := Lib.hid hb; clear hb
  go_enter Try.func20, Try.ntmps20
  go_wp2
  go_loop [4] (fun i => ∃ k : Nat, k ≤ len ∧ i = .int .i64 k ∧ Hid (∀ j, j < k → f j ≠ x)) (fun i => len - (intOf i).toNat)
  case atStart => exact ⟨0, Nat.zero_le _, rfl, Lib.hid (fun j hj => absurd hj (Nat.not_lt_zero _))⟩
  case round =>
    obtain ⟨k, hk, rfl, Hn⟩ := hrel
    by_cases hlt : k < len
    · obtain ⟨b0, off, rfl, hbl, hc⟩ := HR.out k hlt
      by_cases hx : f k = x
      · have hbe : ((f k : Int) == (x : Int)) = true := beq_iff_eq.2 (by omega)
        have HX := Lib.hid hx; clear hx
        go_wp2
        go_ret
        refine ⟨?_, rfl⟩
        rw [HB.out.2 ⟨k, hlt, HX.out⟩]; rfl
      · have hbe : ((f k : Int) == (x : Int)) = false := beq_eq_false_iff_ne.2 (by omega)
        have HX := Lib.hid hx; clear hx
        go_wp2
        go_round
        case rel => exact ⟨k + 1, by omega, by go_num, Lib.hid (fun j hj => by
          by_cases e : j = k
          · subst e; exact HX.out
          · exact Hn.out j (by omega))⟩
        case measure => simp [intOf]; omega
    · go_wp2
      go_ret
      refine ⟨?_, rfl⟩
      cases b with
      | false => rfl
      | true => obtain ⟨j, hj, e⟩ := HB.out.1 rfl; exact absurd e (Hn.out j (by omega))

theorem kept_w (w : World) (bI bT bA len cap pt : Nat) (a : Option Addr) (f g : Nat → Nat) (v : Value) (M : Md) (l : List Nat) (hI : w.cell? ⟨bI, 0, none⟩ = some (.slice a len cap)) (hT : w.cell? ⟨bT, 0, none⟩ = some (ptr pt)) (hA : w.cell? ⟨bA, 0, none⟩ = some v)
    (hR : RowF .u64 w a len f) (hf : ∀ i, f i < 18446744073709551616) (hl : len ≤ 300) (hM : TabM w pt M l) (hown : w.ownsRow 0 3 1 v len (fnRow len (cellF g))) (hg : ∀ j, j < len → M.find (f j) = some (g j)) :
    Calls Try.prog 21 #[ptr bI, ptr bT, ptr bA] w fun e w' => e = .returned (.bool true) ∧ Below w.heap.size w w' := by
  have HR := Lib.hid hR; clear hR
  have Hf := Lib.hid hf; clear hf
  have HG := Lib.hid hg; clear hg
  have HO := Lib.hid hown; clear hown
  go_enter Try.func21, Try.ntmps21
  go_wp2
  go_loopw [4] (fun i wr => ∃ k : Nat, k ≤ len ∧ i = .int .i64 k ∧ Below w.heap.size w wr) (fun i _ => len - (intOf i).toNat)
  case atStart => exact ⟨0, Nat.zero_le _, rfl, Below.refl _ _⟩
  case round =>
    obtain ⟨k, hk, rfl, hB⟩ := hrel
    have rI := (hB.cell (p := ⟨bI, 0, none⟩) (cell_lt hI)).trans hI
    by_cases hlt : k < len
    · obtain ⟨b0, off, rfl, hbl, hc⟩ := HR.out k hlt
      have rc := (hB.cell (p := ⟨b0, off + k, none⟩) hbl).trans hc
      have rT := (hB.cell (p := ⟨bT, 0, none⟩) (cell_lt hT)).trans hT
      obtain ⟨gA, cA, rfl, _, hgA, hgc, _⟩ := ownsRow_at HO.out hlt
      rw [fnRow_at hlt] at hgc
      simp only [cellF] at hgc
      have hlt2 : (k : Int) < len := by omega
      have hTr := hM.below hB
      have hgk := HG.out k hlt
      go_wp2
      refine region_one 5 (fun w' => Below wr.heap.size wr w') (by kernel_rfl) (by kernel_rfl) (by kernel_rfl) ?_
      iterate 5 (refine gWalk_pre (by decide) (fun K hK => ?_); go_simp; refine hK _ ?_; clear hK K)
      refine gWalk_write rfl (.tuple #[.int .i64 (g k), .bool true]) (fun w' hw' => ?_) ?_
      · obtain ⟨nq, rfl⟩ := hw'
        go_simp
        refine (tab_get (f k) (Hf.out k) (hTr.eqv (Eqv.drewN wr nq))).mono ?_
        rintro e w3 ⟨rfl, hT3, hB3⟩
        rw [hgk]
        exact ⟨rfl, (below_drewN (Below.refl _ _) _).trans hB3⟩
      clear hgk
      repeat (refine gWalk_post (by decide) (fun K hK => ?_); go_simp; refine hK _ ?_; clear hK K)
      refine gWalk_nil ?_
      rintro w3 hB3
      have sA := (hB3.cell (p := ⟨bA, 0, none⟩) (by have := cell_lt hA; have := hB.size; dsimp only at *; omega)).trans ((hB.cell (p := ⟨bA, 0, none⟩) (cell_lt hA)).trans hA)
      have sc := (hB3.cell (p := ⟨gA, k, none⟩) (by have := hB.size; dsimp only; omega)).trans ((hB.cell (p := ⟨gA, k, none⟩) hgA).trans hgc)
      clear rI rT rc hc hgc
      go_wp2
      go_roundw
      case rel => exact ⟨k + 1, by omega, by go_num, hB.trans (hB3.mono hB.size)⟩
      case measure => simp [intOf]; omega
    · go_wp2
      go_ret
      exact ⟨rfl, hB⟩

theorem Next.of_drewN {l l' : List Nat} {w w' : World} {n : Nat} (h : Next l l' (w.drewN n) w') : Next l l' w w' :=
  ⟨⟨h.1.os, h.1.tape, h.1.output, h.1.size, h.1.keep⟩, h.2⟩

/-- What the loops of InternStable keep. -/
structure Keeps (f g : Nat → Nat) (n k : Nat) (M : Md) : Prop where
  slots : M.slots = 600
  len : M.L.length ≤ 300 + k
  find : ∀ j, j < n → M.find (f j) = some (g j)

theorem Keeps.put {f g : Nat → Nat} {n k : Nat} {M : Md} (h : Keeps f g n k M) (x : Nat) : Keeps f g n (k + 1) (M.put x).M :=
  ⟨Md.put_slots.trans h.slots, by have := h.len; have := @Md.put_len M x; omega, fun j hj => Md.find_put (h.find j hj)⟩
theorem Keeps.del {f g : Nat → Nat} {n k : Nat} {M : Md} (h : Keeps f g n k M) (x : Nat) (hx : ¬ ∃ j, j < n ∧ f j = x) : ∀ j, j < n → (M.del x).M.find (f j) = some (g j) :=
  fun j hj => by rw [Md.find_del (fun e => hx ⟨j, hj, e⟩)]; exact h.find j hj

theorem walk_internStable (w : World) (a0 : Option Addr) (len0 cap0 : Nat) (z0 : List Int) (w0 : IsRow .u64 w a0 len0 cap0 z0) (a1 : Option Addr) (len1 cap1 : Nat) (z1 : List Int) (w1 : IsRow .u64 w a1 len1 cap1 z1) (back : Bool) :
    Calls Try.prog 6 #[.slice a0 len0 cap0, .slice a1 len1 cap1, .bool back] w fun e w' => e = .returned (.bool true) ∧ Below w.heap.size w w' := by
  obtain ⟨f, hR, hf, hlen⟩ := row_u64 w0
  obtain ⟨q, hQ, hq, hlen1⟩ := row_u64 w1
  clear w0 w1
  have HR := Lib.hid hR; clear hR
  have Hf := Lib.hid hf; clear hf
  have HQ := Lib.hid hQ; clear hQ
  have Hq := Lib.hid hq; clear hq
  by_cases h300 : 300 < len0 ∨ 300 < len1
  · by_cases h0 : 300 < len0
    · have hd : decide ((300 : Int) < (len0 : Int)) = true := decide_eq_true (by omega)
      clear h300
      go_enter Try.func6, Try.ntmps6
      go_wp2_with (go_at_call 13; refine (works_w _).mono ?_; rintro e w3 ⟨rfl, hB3⟩)
      go_ret
      exact ⟨rfl, ((Below.refl _ w).alloc (Nat.le_refl _) _).trans (hB3.mono (by simp))⟩
    · have hd : decide ((300 : Int) < (len0 : Int)) = false := decide_eq_false (by omega)
      have hd1 : decide ((300 : Int) < (len1 : Int)) = true := decide_eq_true (by omega)
      clear h300
      go_enter Try.func6, Try.ntmps6
      go_wp2_with (go_at_call 13; refine (works_w _).mono ?_; rintro e w3 ⟨rfl, hB3⟩)
      go_ret
      exact ⟨rfl, ((Below.refl _ w).alloc (Nat.le_refl _) _).trans (hB3.mono (by simp))⟩
  have hl0 : len0 ≤ 300 := by omega
  have hl1 : len1 ≤ 300 := by omega
  clear h300
  have hd : decide ((300 : Int) < (len0 : Int)) = false := decide_eq_false (by omega)
  have hd1 : decide ((300 : Int) < (len1 : Int)) = false := decide_eq_false (by omega)
  have hBa : Below w.heap.size w (w.alloc (.cells #[.slice a0 len0 cap0] 37)) := (Below.refl _ w).alloc (Nat.le_refl _) _
  have bI := Blk.new w [.slice a0 len0 cap0] 37
  go_enter Try.func6, Try.ntmps6
  go_wp2_with fail
  refine (filled_w _ 600 len0 cap0 a0 f (HR.out.below hBa) Hf.out (by omega) (by decide)).mono ?_
  rintro e w1 ⟨pt, l, v, rfl, hT, hown, hN, hdis⟩
  have hI1 : Blk w1 w.heap.size 37 [.slice a0 len0 cap0] := (hN.1.below (by simp)).block _ (by simp) |> bI.of_same
  have hB1 : Below w.heap.size w w1 := hBa.trans ((hN.1.below (by simp)).mono (by simp))
  have hsz1 : w.heap.size < w1.heap.size := hI1.lt
  obtain ⟨av, cv, rfl⟩ := ownsRow_slice hown
  clear bI hBa
  go_wp2
  have e1 := Blk.new w1 [ptr pt] 25
  have e2 := Blk.new (w1.alloc (.cells #[ptr pt] 25)) [.slice av len0 cv] 38
  simp only [World.size_alloc] at e2
  have hB2 : Below w1.heap.size w1 ((w1.alloc (.cells #[ptr pt] 25)).alloc (.cells #[.slice av len0 cv] 38)) := ((Below.refl _ w1).alloc (Nat.le_refl _) _).alloc (by simp) _
  have e1' := e1.alloc (.cells #[.slice av len0 cv] 38)
  have hTl := hT.lt
  have hT2 := hT.below hB2
  have hown2 := ownsRow_same hown (fun k hk => hB2.block k (hown.lt k hk).2)
  have hI2 := hI1.of_same (hB2.block _ hI1.lt)
  generalize hW : ((w1.alloc (.cells #[ptr pt] 25)).alloc (.cells #[.slice av len0 cv] 38)) = W2 at *
  clear hW e1 hown hT hI1
  have hl0' : ∀ b ∈ l, w.heap.size < b := fun b hb => by have := (hN.2 b (by simp [hb])).resolve_left (by simp); simp at this; omega
  have nI : w.heap.size ∉ l := fun hm => by have := hl0' _ hm; omega
  have nT : w1.heap.size ∉ l := fun hm => by have := hTl _ hm; omega
  have nA : w1.heap.size + 1 ∉ l := fun hm => by have := hTl _ hm; omega
  have cI := hI2.cell 0
  have cT := e1'.cell 0
  have cA := e2.cell 0
  simp only [List.getElem?_cons_zero] at cI cT cA
  have hBW : Below w.heap.size w W2 := hB1.trans (hB2.mono hB1.size)
  have HQ2 := Lib.hid (HQ.out.below hBW)
  have HR2 := Lib.hid (HR.out.below hBW)
  have nQ : ∀ k, k < len1 → ∃ b off, a1 = some ⟨b, off, none⟩ ∧ b ∉ l ∧ W2.cell? ⟨b, off + k, none⟩ = some (.int .u64 (q k)) := fun k hk => by
    obtain ⟨b, off, e, hb, hc⟩ := HQ.out k hk
    exact ⟨b, off, e, fun hm => by have := hl0' _ hm; omega, (hBW.cell (p := ⟨b, off + k, none⟩) hb).trans hc⟩
  have HnQ := Lib.hid nQ; clear nQ
  have nR : ∀ k, k < len0 → ∃ b off, a0 = some ⟨b, off, none⟩ ∧ b ∉ l ∧ W2.cell? ⟨b, off + k, none⟩ = some (.int .u64 (f k)) := fun k hk => by
    obtain ⟨b, off, e, hb, hc⟩ := HR.out k hk
    exact ⟨b, off, e, fun hm => by have := hl0' _ hm; omega, (hBW.cell (p := ⟨b, off + k, none⟩) hb).trans hc⟩
  have HnR := Lib.hid nR; clear nR
  have HO := Lib.hid hown2
  have hK0 : Keeps f (atF f len0) len0 0 (Mf 600 (firsts f len0)) := ⟨rfl, by have := firsts_len f len0; simp [Mf]; omega, fun j hj => by
    rw [Mf_find (firsts_nodup f len0), if_pos (firsts_mem f len0 j hj)]; rfl⟩
  have HD := Lib.hid hdis; clear hdis
  have Hl0 := Lib.hid hl0'; clear hl0'
  have Hl1 := Lib.hid hTl; clear hTl
  -- what the closures ask, in any world that the loops come to
  have hkept : ∀ (wr : World) (l' : List Nat) (M : Md), TabM wr pt M l' → Next l l' W2 wr → (∀ j, j < len0 → M.find (f j) = some (atF f len0 j)) →
      Calls Try.prog 21 #[ptr w.heap.size, ptr w1.heap.size, ptr (w1.heap.size + 1)] wr fun e w' => e = .returned (.bool true) ∧ Below wr.heap.size wr w' := by
    intro wr l' M hM hNx hfi
    refine kept_w wr _ _ _ len0 cap0 pt a0 f (atF f len0) _ M l' (hNx.cell cI nI).1 (hNx.cell cT nT).1 (hNx.cell cA nA).1 ?_ Hf.out hl0 hM ?_ hfi
    · intro i hi
      obtain ⟨b, off, e, hb, hc⟩ := HnR.out i hi
      have := hNx.cell hc hb
      exact ⟨b, off, e, cell_lt this.1, this.1⟩
    · exact ownsRow_same HO.out (fun k hk => hNx.1.keep k (HO.out.lt k hk).2 (HD.out k hk))
  have hin : ∀ (wr : World) (l' : List Nat) (x : Nat) (b : Bool), Next l l' W2 wr → (b = true ↔ ∃ j, j < len0 ∧ f j = x) →
      Calls Try.prog 20 #[.int .u64 x, ptr w.heap.size] wr fun e w' => e = .returned (.bool b) ∧ wr = w' := by
    intro wr l' x b hNx hb
    refine in_w wr _ len0 cap0 x a0 f (hNx.cell cI nI).1 ?_ hl0 b hb
    intro i hi
    obtain ⟨b, off, e, hb, hc⟩ := HnR.out i hi
    have := hNx.cell hc hb
    exact ⟨b, off, e, cell_lt this.1, this.1⟩
  have Hkept := Lib.hid hkept; clear hkept
  have Hin := Lib.hid hin; clear hin
  have hfinal : ∀ (wr wz : World) (l' : List Nat), Next l l' W2 wr → Below wr.heap.size wr wz → Below w.heap.size w wz := by
    intro wr wz l' hNx hz
    have h1 : Fr [] w wr := (Fr.of_below hBW).trans hNx.1 (fun b hb => .inr (by have := Hl0.out b hb; omega))
    exact (h1.below (by simp)).trans (hz.mono h1.size)
  have Hfin := Lib.hid hfinal; clear hfinal
  go_loopw [12] (fun x wr => ∃ (k : Nat) (l' : List Nat) (M : Md), k ≤ len1 ∧ x = .int .i64 k ∧ TabM wr pt M l' ∧ Keeps f (atF f len0) len0 k M ∧ Next l l' W2 wr) (fun x _ => len1 - (intOf x).toNat)
  case atStart => exact ⟨0, l, _, Nat.zero_le _, rfl, hT2, hK0, Next.refl _ _⟩
  case round =>
    obtain ⟨k, l', M, hk, rfl, hTr, hK, hNx⟩ := hrel
    by_cases hlt : k < len1
    · obtain ⟨b, off, rfl, hb, hc⟩ := HnQ.out k hlt
      have rc := (hNx.cell hc hb).1
      have rT := (hNx.cell cT nT).1
      have herr : (M.put (q k)).err = 0 := Md.put_ok hTr.ok (by rw [hK.slots]; have := hK.len; omega)
      have hlt2 : (k : Int) < len1 := by omega
      have HE := Lib.hid herr; clear herr
      clear hc
      go_wp2
      refine region_one 5 (fun w' => ∃ l'', TabM w' pt (M.put (q k)).M l'' ∧ Next l l'' W2 w') (by kernel_rfl) (by kernel_rfl) (by kernel_rfl) ?_
      iterate 5 (refine gWalk_pre (by decide) (fun K hK => ?_); go_simp; refine hK _ ?_; clear hK K)
      refine gWalk_write rfl (.tuple #[.int .i64 (M.put (q k)).idx, .bool (M.put (q k)).added, .int .i64 0]) (fun w' hw' => ?_) ?_
      · obtain ⟨nq, rfl⟩ := hw'
        go_simp
        refine (tab_put (q k) (Hq.out k) (hTr.eqv (Eqv.drewN wr nq))).mono ?_
        rintro e w3 ⟨rfl, l3, hT3, hN3⟩
        rw [HE.out]
        exact ⟨rfl, l3, hT3, hNx.trans hN3.of_drewN⟩
      repeat (refine gWalk_post (by decide) (fun K hK => ?_); go_simp; refine hK _ ?_; clear hK K)
      refine gWalk_nil ?_
      rintro w3 ⟨l3, hT3, hN3⟩
      clear rc rT
      go_wp2
      go_roundw
      case rel => exact ⟨k + 1, l3, _, by omega, by go_num, hT3, hK.put _, hN3⟩
      case measure => simp [intOf]; omega
    · go_wp2_with fail
      refine (Hkept.out wr l' M hTr hNx hK.find).mono ?_
      rintro e w3 ⟨rfl, hB3⟩
      have hT3 := hTr.below hB3
      have hN3 := hNx.trans (Next.of_below (l := l') hB3)
      have hK3 := hK.find
      clear hTr hNx hK
      go_wp2
      go_loopw [16] (fun x wr => ∃ (k : Nat) (l' : List Nat) (M : Md), k ≤ len1 ∧ x = .int .i64 k ∧ TabM wr pt M l' ∧ Hid (∀ j, j < len0 → M.find (f j) = some (atF f len0 j)) ∧ Next l l' W2 wr) (fun x _ => len1 - (intOf x).toNat)
      case atStart => exact ⟨0, l', M, Nat.zero_le _, rfl, hT3, Lib.hid hK3, hN3⟩
      case round =>
        obtain ⟨k, l', M, hk, rfl, hTr, HK, hNx⟩ := hrel
        by_cases hlt : k < len1
        · have key : ∀ j, j < len1 → ∃ b off, a1 = some ⟨b, off, none⟩ ∧ wr.cell? ⟨b, off + j, none⟩ = some (.int .u64 (q j)) := fun j hj => by
            obtain ⟨b, off, e, hb, hc⟩ := HnQ.out j hj
            exact ⟨b, off, e, (hNx.cell hc hb).1⟩
          have rT := (hNx.cell cT nT).1
          obtain ⟨j, hj, hjx⟩ : ∃ j, j < len1 ∧ j = (if back then len1 - 1 - k else k) := ⟨_, by split <;> omega, rfl⟩
          obtain ⟨b, off, rfl, rc⟩ := key k hlt
          obtain ⟨b', off', e', rc'⟩ := key j hj
          simp only [Option.some.injEq, Addr.mk.injEq, and_true] at e'
          obtain ⟨rfl, rfl⟩ := e'
          clear key
          have hd5 : ∀ y : Nat, y < len1 → q y < 18446744073709551616 := fun y _ => Hq.out y
          by_cases hm : ∃ i, i < len0 ∧ f i = q j
          · have HIN := Lib.hid (Hin.out wr l' (q j) true hNx ⟨fun _ => hm, fun _ => rfl⟩)
            clear hm hd5
            cases back with
            | false =>
              obtain rfl : j = k := by simpa using hjx
              clear hjx rc'
              go_wp2_with (go_at_call 20; refine HIN.out.mono ?_; rintro e w' ⟨rfl, rfl⟩)
              go_roundw
              case rel => exact ⟨j + 1, l', M, by omega, by go_num, hTr, HK, hNx⟩
              case measure => simp [intOf]; omega
            | true =>
              obtain rfl : j = len1 - 1 - k := by simpa using hjx
              clear hjx
              go_wp2_with (go_at_call 20; refine HIN.out.mono ?_; rintro e w' ⟨rfl, rfl⟩)
              go_roundw
              case rel => exact ⟨k + 1, l', M, by omega, by go_num, hTr, HK, hNx⟩
              case measure => simp [intOf]; omega
          · have HIN := Lib.hid (Hin.out wr l' (q j) false hNx ⟨(fun h => by cases h), fun h => absurd h hm⟩)
            have hqj := Hq.out j
            have hdel := tab_del (q j) hqj hTr
            have HDel := Lib.hid hdel; clear hdel
            have HK' : Hid (∀ i, i < len0 → (M.del (q j)).M.find (f i) = some (atF f len0 i)) := fun i hi => by
              rw [Md.find_del (fun e => hm ⟨i, hi, e⟩)]; exact HK.out i hi
            clear hm hd5
            cases back with
            | false =>
              obtain rfl : j = k := by simpa using hjx
              clear hjx rc'
              go_wp2_with (first | (go_at_call 20; refine HIN.out.mono ?_; rintro e w' ⟨rfl, rfl⟩) | (go_at_call 15; refine HDel.out.mono ?_; rintro e w4 ⟨rfl, hT4, hN4⟩))
              go_roundw
              case rel => exact ⟨j + 1, l', _, by omega, by go_num, hT4, HK', hNx.trans hN4⟩
              case measure => simp [intOf]; omega
            | true =>
              obtain rfl : j = len1 - 1 - k := by simpa using hjx
              clear hjx
              go_wp2_with (first | (go_at_call 20; refine HIN.out.mono ?_; rintro e w' ⟨rfl, rfl⟩) | (go_at_call 15; refine HDel.out.mono ?_; rintro e w4 ⟨rfl, hT4, hN4⟩))
              go_roundw
              case rel => exact ⟨k + 1, l', _, by omega, by go_num, hT4, HK', hNx.trans hN4⟩
              case measure => simp [intOf]; omega
        · go_wp2_with fail
          refine (Hkept.out wr l' M hTr hNx HK.out).mono ?_
          rintro e w4 ⟨rfl, hB4⟩
          go_wp2_with (go_at_call 13; refine (works_w _).mono ?_; rintro e w5 ⟨rfl, hB5⟩)
          go_ret
          exact ⟨rfl, Hfin.out wr _ l' hNx (hB4.trans (hB5.mono hB4.size))⟩

end Go.Proofs.Ytciacnnelpijeaa
