/- The statement 'StoreNil': for every input the call returns true, and each argument reads afterwards as it read before. -/
import Derived.Test.YtbegdgnhpklceaaB15
import Derived.Test.YtbegdgnhpklceaaB1
set_option linter.unusedSimpArgs false
set_option linter.unusedVariables false
/- StoreNil: stores that are nil or zero; the walk. -/
namespace Go.Proofs.Ytbegdgnhpklceaa
open Go.RowKit
set_option maxRecDepth 10000
set_option maxHeartbeats 1600000

theorem flat_rec : Flat Try.prog 32 [.i .u64, .i .u64, .i .i64, .i .i64] := by
  refine Flat.struct Try.underlying32 (by kernel_rfl) (fun j k hj => ?_)
  have hu : Flat Try.prog 30 [.i .u64] := Flat.int Try.underlying30 (by kernel_rfl)
  have hi : Flat Try.prog 2 [.i .i64] := Flat.int Try.underlying2 (by kernel_rfl)
  match j, hj with
  | 0, hj => exact ⟨0, _, _, rfl, hu, by decide, hj⟩
  | 1, hj => exact ⟨1, _, _, rfl, hu, by decide, hj⟩
  | 2, hj => exact ⟨2, _, _, rfl, hi, by decide, hj⟩
  | 3, hj => exact ⟨3, _, _, rfl, hi, by decide, hj⟩
  | j + 4, hj => simp at hj
theorem open_rec {H : Type} {enc : TypeId × Value → H} {W : World} {base : Nat} {v : Value} {d : DataW H} {p : List MemPlace} (hok : Value.okWide Try.prog W .any base 32 v)
    (h : DataW.Trod enc Try.prog W 0 (fun _ => true) true 32 v d p) : ∃ z : Nat × Nat × Int × Int, v = recA z.1 z.2.1 z.2.2.1 z.2.2.2 ∧ z.1 < U64 ∧ z.2.1 < U64 := by
  obtain ⟨cs, rfl, hsz⟩ := Go.WideShapes.okWide_struct Try.underlying32 hok
  have h4 : cs.size = 4 := hsz.trans (by kernel_rfl)
  obtain ⟨fuel, hf⟩ := h
  obtain ⟨v0, e0, n0, rfl, k0⟩ := flat_rec.2 hf 0 _ rfl
  obtain ⟨v1, e1, n1, rfl, k1⟩ := flat_rec.2 hf 1 _ rfl
  obtain ⟨v2, e2, n2, rfl, _⟩ := flat_rec.2 hf 2 _ rfl
  obtain ⟨v3, e3, n3, rfl, _⟩ := flat_rec.2 hf 3 _ rfl
  obtain ⟨u, rfl, hu⟩ := u64_of_wf k0
  obtain ⟨v, rfl, hv⟩ := u64_of_wf k1
  refine ⟨(u, v, n2, n3), ?_, hu, hv⟩
  simp only [Value.cells] at e0 e1 e2 e3
  congr 1
  refine Array.ext_getElem? fun i => ?_
  match i with
  | 0 => simpa using e0
  | 1 => simpa using e1
  | 2 => simpa using e2
  | 3 => simpa using e3
  | i + 4 => rw [Array.getElem?_eq_none (by omega), Array.getElem?_eq_none (by simp)]

/-- A store that is nil, or was not made by New. -/
def Bad (w : World) (v : Value) : Prop := v = .pointer none ∨ ∃ pz, v = .pointer (some ⟨pz, 0, none⟩) ∧ w.cell? ⟨pz, 6, none⟩ = some (.map none)
theorem Bad.fr0 {w w' : World} {v : Value} (h : Bad w v) (hf : Fr [] w w') : Bad w' v := by
  rcases h with h | ⟨pz, h, c⟩
  · exact .inl h
  · exact .inr ⟨pz, h, hf.cell c (by simp)⟩
section
variable {w : World} {v : Value}
theorem valid_bad (h : Bad w v) : Calls Try.prog 29 #[v] w fun e w' => e = .returned (.bool false) ∧ w' = w := by
  rcases h with rfl | ⟨pz, rfl, c6⟩
  · go_enter Try.func29, Try.ntmps29
    go_wp2
    go_ret
    exact ⟨rfl, rfl⟩
  · go_enter Try.func29, Try.ntmps29
    go_wp2
    go_ret
    exact ⟨rfl, rfl⟩
theorem len_bad (h : Bad w v) : Calls Try.prog 11 #[v] w fun e w' => e = .returned (.int .i64 0) ∧ w' = w := by
  have HV := Lib.hid (valid_bad h); clear h
  go_enter Try.func11, Try.ntmps11
  go_wp2_with fail
  refine HV.out.mono ?_
  rintro _ w ⟨rfl, rfl⟩
  go_wp2
  go_ret
  exact ⟨rfl, rfl⟩
theorem verts_bad (h : Bad w v) : Calls Try.prog 17 #[v] w fun e w' => e = .returned (.int .i64 0) ∧ w' = w := by
  have HV := Lib.hid (valid_bad h); clear h
  go_enter Try.func17, Try.ntmps17
  go_wp2_with fail
  refine HV.out.mono ?_
  rintro _ w ⟨rfl, rfl⟩
  go_wp2
  go_ret
  exact ⟨rfl, rfl⟩
theorem incident_bad (h : Bad w v) (id : Int) : Calls Try.prog 21 #[v, .int .u64 id] w fun e w' => e = .returned nilS ∧ w' = w := by
  have HV := Lib.hid (valid_bad h); clear h
  go_enter Try.func21, Try.ntmps21
  go_wp2_with fail
  refine HV.out.mono ?_
  rintro _ w ⟨rfl, rfl⟩
  go_wp2
  go_ret
  exact ⟨rfl, rfl⟩
theorem list_bad (h : Bad w v) : Calls Try.prog 13 #[v] w fun e w' => e = .returned nilS ∧ w' = w := by
  have HV := Lib.hid (valid_bad h); clear h
  go_enter Try.func13, Try.ntmps13
  go_wp2_with fail
  refine HV.out.mono ?_
  rintro _ w ⟨rfl, rfl⟩
  go_wp2
  go_ret
  exact ⟨rfl, rfl⟩
theorem ids_bad (h : Bad w v) : Calls Try.prog 19 #[v] w fun e w' => e = .returned nilS ∧ w' = w := by
  have HV := Lib.hid (valid_bad h); clear h
  go_enter Try.func19, Try.ntmps19
  go_wp2_with fail
  refine HV.out.mono ?_
  rintro _ w ⟨rfl, rfl⟩
  go_wp2
  go_ret
  exact ⟨rfl, rfl⟩
theorem copy_bad (h : Bad w v) : Calls Try.prog 26 #[v] w fun e w' => e = .returned (.pointer none) ∧ w' = w := by
  have HV := Lib.hid (valid_bad h); clear h
  go_enter Try.func26, Try.ntmps26
  go_wp2_with fail
  refine HV.out.mono ?_
  rintro _ w ⟨rfl, rfl⟩
  go_wp2
  go_ret
  exact ⟨rfl, rfl⟩
theorem index_bad (h : Bad w v) (id : Int) : Calls Try.prog 20 #[v, .int .u64 id] w fun e w' => e = .returned (.tuple #[.int .i64 0, .bool false]) ∧ w' = w := by
  have HV := Lib.hid (valid_bad h); clear h
  go_enter Try.func20, Try.ntmps20
  go_wp2_with fail
  refine HV.out.mono ?_
  rintro _ w ⟨rfl, rfl⟩
  go_wp2
  go_ret2
  exact ⟨rfl, rfl⟩
theorem id_bad (h : Bad w v) (i : Int) : Calls Try.prog 22 #[v, .int .i64 i] w fun e w' => e = .returned (.tuple #[.int .u64 0, .bool false]) ∧ w' = w := by
  have HV := Lib.hid (valid_bad h); clear h
  go_enter Try.func22, Try.ntmps22
  go_wp2_with fail
  refine HV.out.mono ?_
  rintro _ w ⟨rfl, rfl⟩
  go_wp2
  go_ret2
  exact ⟨rfl, rfl⟩
theorem check_bad (h : Bad w v) (a b : Nat) (wt t : Int) : Calls Try.prog 23 #[v, recA a b wt t] w fun e w' => e = .returned (.int .i64 1) ∧ Fr [] w w' := by
  have hf : Fr [] w (w.alloc (.cells #[.int .u64 a, .int .u64 b, .int .i64 wt, .int .i64 t] 32)) := (Fr.refl [] w).alloc _
  have HV := Lib.hid (valid_bad (h.fr0 hf))
  have HF := Lib.hid hf
  clear h hf
  go_enter Try.func23, Try.ntmps23
  go_wp2_with fail
  refine HV.out.mono ?_
  rintro _ w1 ⟨rfl, rfl⟩
  go_wp2
  go_ret
  exact ⟨rfl, HF.out⟩
theorem get_bad (h : Bad w v) (i : Int) : Calls Try.prog 14 #[v, .int .i64 i] w fun e w' => e = .returned (.tuple #[lvA Lv.z, .bool false]) ∧ Fr [] w w' := by
  have hf0 : Fr [] w (w.alloc (.cells #[.int .i64 0, .int .u64 0, .int .u64 0, .int .u64 0, .int .i64 0, .int .i64 0, .int .i64 0] 34)) := (Fr.refl [] w).alloc _
  have hbx : Blk (w.alloc (.cells #[.int .i64 0, .int .u64 0, .int .u64 0, .int .u64 0, .int .i64 0, .int .i64 0, .int .i64 0] 34)) w.heap.size 34 [.int .i64 0, .int .u64 0, .int .u64 0, .int .u64 0, .int .i64 0, .int .i64 0, .int .i64 0] := by
    have := Blk.new w [.int .i64 0, .int .u64 0, .int .u64 0, .int .u64 0, .int .i64 0, .int .i64 0, .int .i64 0] 34
    simpa using this
  have HV := Lib.hid (valid_bad (h.fr0 hf0))
  clear h
  go_enter Try.func14, Try.ntmps14
  go_wp2_with fail
  have HF := Lib.hid hf0; clear hf0
  generalize w.alloc (.cells #[.int .i64 0, .int .u64 0, .int .u64 0, .int .u64 0, .int .i64 0, .int .i64 0, .int .i64 0] 34) = w1 at *
  refine HV.out.mono ?_
  rintro _ w1 ⟨rfl, rfl⟩
  have z := hbx.frozen
  have t0 := hbx.cell 0; have t1 := hbx.cell 1; have t2 := hbx.cell 2; have t3 := hbx.cell 3; have t4 := hbx.cell 4; have t5 := hbx.cell 5; have t6 := hbx.cell 6
  simp only [List.getElem?_cons_zero, List.getElem?_cons_succ] at t0 t1 t2 t3 t4 t5 t6
  have HX := Lib.hid (hbx.put7 Lv.z); clear hbx
  go_wp2_with fail
  have r := HX.out.lvAt
  unfold LvAt Go.Proofs.Ytbegdgnhpklceaa.put7 at r
  simp only [Lv.z, Nat.zero_add, Int.ofNat_zero] at r
  obtain ⟨r0, r1, r2, r3, r4, r5, r6⟩ := r
  exact bodyPost_ret (v := .tuple #[lvA Lv.z, .bool false]) (by simp [results, Try.results14, go_sem, r0, r1, r2, r3, r4, r5, r6, Lv.z]) rfl ⟨rfl, HF.out.put7 _ _ Lv.z (.inr (Nat.le_refl _))⟩
theorem rem_bad (h : Bad w v) (i : Int) : Calls Try.prog 25 #[v, .int .i64 i] w fun e w' => e = .returned (.tuple #[lvA Lv.z, .int .i64 1]) ∧ Fr [] w w' := by
  have hf0 : Fr [] w (w.alloc (.cells #[.int .i64 0, .int .u64 0, .int .u64 0, .int .u64 0, .int .i64 0, .int .i64 0, .int .i64 0] 34)) := (Fr.refl [] w).alloc _
  have hbx : Blk (w.alloc (.cells #[.int .i64 0, .int .u64 0, .int .u64 0, .int .u64 0, .int .i64 0, .int .i64 0, .int .i64 0] 34)) w.heap.size 34 [.int .i64 0, .int .u64 0, .int .u64 0, .int .u64 0, .int .i64 0, .int .i64 0, .int .i64 0] := by
    have := Blk.new w [.int .i64 0, .int .u64 0, .int .u64 0, .int .u64 0, .int .i64 0, .int .i64 0, .int .i64 0] 34
    simpa using this
  have HV := Lib.hid (valid_bad (h.fr0 hf0))
  clear h
  go_enter Try.func25, Try.ntmps25
  go_wp2_with fail
  have HF := Lib.hid hf0; clear hf0
  generalize w.alloc (.cells #[.int .i64 0, .int .u64 0, .int .u64 0, .int .u64 0, .int .i64 0, .int .i64 0, .int .i64 0] 34) = w1 at *
  refine HV.out.mono ?_
  rintro _ w1 ⟨rfl, rfl⟩
  have z := hbx.frozen
  have t0 := hbx.cell 0; have t1 := hbx.cell 1; have t2 := hbx.cell 2; have t3 := hbx.cell 3; have t4 := hbx.cell 4; have t5 := hbx.cell 5; have t6 := hbx.cell 6
  simp only [List.getElem?_cons_zero, List.getElem?_cons_succ] at t0 t1 t2 t3 t4 t5 t6
  have HX := Lib.hid (hbx.put7 Lv.z); clear hbx
  go_wp2_with fail
  have r := HX.out.lvAt
  unfold LvAt Go.Proofs.Ytbegdgnhpklceaa.put7 at r
  simp only [Lv.z, Nat.zero_add, Int.ofNat_zero] at r
  obtain ⟨r0, r1, r2, r3, r4, r5, r6⟩ := r
  exact bodyPost_ret (v := .tuple #[lvA Lv.z, .int .i64 1]) (by simp [results, Try.results25, go_sem, r0, r1, r2, r3, r4, r5, r6, Lv.z]) rfl ⟨rfl, HF.out.put7 _ _ Lv.z (.inr (Nat.le_refl _))⟩
theorem ins_bad (h : Bad w v) (a b : Nat) (wt t x : Int) : Calls Try.prog 24 #[v, recA a b wt t, .int .i64 x] w fun e w' => e = .returned (.tuple #[lvA Lv.z, .int .i64 1]) ∧ Fr [] w w' := by
  have hf0 : Fr [] w ((w.alloc (.cells #[.int .u64 a, .int .u64 b, .int .i64 wt, .int .i64 t] 32)).alloc (.cells #[.int .i64 0, .int .u64 0, .int .u64 0, .int .u64 0, .int .i64 0, .int .i64 0, .int .i64 0] 34)) := ((Fr.refl [] w).alloc _).alloc _
  have hbx : Blk ((w.alloc (.cells #[.int .u64 a, .int .u64 b, .int .i64 wt, .int .i64 t] 32)).alloc (.cells #[.int .i64 0, .int .u64 0, .int .u64 0, .int .u64 0, .int .i64 0, .int .i64 0, .int .i64 0] 34)) (w.heap.size + 1) 34 [.int .i64 0, .int .u64 0, .int .u64 0, .int .u64 0, .int .i64 0, .int .i64 0, .int .i64 0] := by
    have := Blk.new (w.alloc (.cells #[.int .u64 a, .int .u64 b, .int .i64 wt, .int .i64 t] 32)) [.int .i64 0, .int .u64 0, .int .u64 0, .int .u64 0, .int .i64 0, .int .i64 0, .int .i64 0] 34
    simpa using this
  have HC := Lib.hid (check_bad (h.fr0 hf0) a b wt t)
  clear h
  go_enter Try.func24, Try.ntmps24
  go_wp2_with fail
  generalize (w.alloc (.cells #[.int .u64 a, .int .u64 b, .int .i64 wt, .int .i64 t] 32)).alloc (.cells #[.int .i64 0, .int .u64 0, .int .u64 0, .int .u64 0, .int .i64 0, .int .i64 0, .int .i64 0] 34) = w1 at *
  refine HC.out.mono ?_
  rintro _ w2 ⟨rfl, h2⟩
  have hb2 := h2.blk hbx (by simp)
  have HF := Lib.hid (hf0.trans' h2)
  have z := hb2.frozen
  have t0 := hb2.cell 0; have t1 := hb2.cell 1; have t2 := hb2.cell 2; have t3 := hb2.cell 3; have t4 := hb2.cell 4; have t5 := hb2.cell 5; have t6 := hb2.cell 6
  simp only [List.getElem?_cons_zero, List.getElem?_cons_succ] at t0 t1 t2 t3 t4 t5 t6
  have HX := Lib.hid (hb2.put7 Lv.z); clear hbx hb2 h2 hf0 HC
  go_wp2_with fail
  have r := HX.out.lvAt
  unfold LvAt Go.Proofs.Ytbegdgnhpklceaa.put7 at r
  simp only [Lv.z, Nat.zero_add, Int.ofNat_zero] at r
  obtain ⟨r0, r1, r2, r3, r4, r5, r6⟩ := r
  exact bodyPost_ret (v := .tuple #[lvA Lv.z, .int .i64 1]) (by simp [results, Try.results24, go_sem, r0, r1, r2, r3, r4, r5, r6, Lv.z]) rfl ⟨rfl, HF.out.put7 _ _ Lv.z (.inr (Nat.le_succ _))⟩
end
theorem walk_storeNil (W : World) (z : Nat × Nat × Int × Int) (hz : z.1 < U64 ∧ z.2.1 < U64) (n : Int) (_ : (Lit.int .i64 n).wf = true) :
    Calls Try.prog 9 #[recA z.1 z.2.1 z.2.2.1 z.2.2.2, .int .i64 n] W fun e w' => e = .returned (.bool true) ∧ Below W.heap.size W w' := by
  have HWk := Lib.hid (fun w => works_w w)
  obtain ⟨u, b, wt, t⟩ := z
  dsimp only at hz ⊢
  clear hz
  have hf0 : Fr [] W (((W.alloc (.cells #[.int .u64 u, .int .u64 b, .int .i64 wt, .int .i64 t] 32)).alloc (.cells #[.int .i64 0, .int .i64 0, .int .u64 0, .pointer none, .pointer none, .slice none 0 0, .map none] 63)).alloc (.cells #[.pointer none, .pointer (some ⟨W.heap.size + 1, 0, none⟩)] 23)) := (((Fr.refl [] W).alloc _).alloc _).alloc _
  have hbr : Blk (((W.alloc (.cells #[.int .u64 u, .int .u64 b, .int .i64 wt, .int .i64 t] 32)).alloc (.cells #[.int .i64 0, .int .i64 0, .int .u64 0, .pointer none, .pointer none, .slice none 0 0, .map none] 63)).alloc (.cells #[.pointer none, .pointer (some ⟨W.heap.size + 1, 0, none⟩)] 23)) W.heap.size 32 [.int .u64 u, .int .u64 b, .int .i64 wt, .int .i64 t] := ((Blk.new W _ _).alloc _).alloc _
  have hbz : Blk (((W.alloc (.cells #[.int .u64 u, .int .u64 b, .int .i64 wt, .int .i64 t] 32)).alloc (.cells #[.int .i64 0, .int .i64 0, .int .u64 0, .pointer none, .pointer none, .slice none 0 0, .map none] 63)).alloc (.cells #[.pointer none, .pointer (some ⟨W.heap.size + 1, 0, none⟩)] 23)) (W.heap.size + 1) 63 [.int .i64 0, .int .i64 0, .int .u64 0, .pointer none, .pointer none, .slice none 0 0, .map none] := by
    have := (Blk.new (W.alloc (.cells #[.int .u64 u, .int .u64 b, .int .i64 wt, .int .i64 t] 32)) [.int .i64 0, .int .i64 0, .int .u64 0, .pointer none, .pointer none, .slice none 0 0, .map none] 63).alloc (.cells #[.pointer none, .pointer (some ⟨W.heap.size + 1, 0, none⟩)] 23)
    simpa using this
  have hbs : Blk (((W.alloc (.cells #[.int .u64 u, .int .u64 b, .int .i64 wt, .int .i64 t] 32)).alloc (.cells #[.int .i64 0, .int .i64 0, .int .u64 0, .pointer none, .pointer none, .slice none 0 0, .map none] 63)).alloc (.cells #[.pointer none, .pointer (some ⟨W.heap.size + 1, 0, none⟩)] 23)) (W.heap.size + 2) 23 [.pointer none, .pointer (some ⟨W.heap.size + 1, 0, none⟩)] := by
    have := Blk.new ((W.alloc (.cells #[.int .u64 u, .int .u64 b, .int .i64 wt, .int .i64 t] 32)).alloc (.cells #[.int .i64 0, .int .i64 0, .int .u64 0, .pointer none, .pointer none, .slice none 0 0, .map none] 63)) [.pointer none, .pointer (some ⟨W.heap.size + 1, 0, none⟩)] 23
    simpa using this
  go_enter Try.func9, Try.ntmps9
  go_wp2_with fail
  generalize ((W.alloc (.cells #[.int .u64 u, .int .u64 b, .int .i64 wt, .int .i64 t] 32)).alloc (.cells #[.int .i64 0, .int .i64 0, .int .u64 0, .pointer none, .pointer none, .slice none 0 0, .map none] 63)).alloc (.cells #[.pointer none, .pointer (some ⟨W.heap.size + 1, 0, none⟩)] 23) = w0 at *
  have H0 := Lib.hid (And.intro hf0 (And.intro hbr (And.intro hbz hbs))); clear hf0 hbr hbz hbs
  go_loopw [7] (fun i wr => ∃ k : Nat, k ≤ 2 ∧ i = .int .i64 k ∧ Hid (Fr [] w0 wr)) (fun i _ => 2 - (intOf i).toNat)
  case atStart => exact ⟨0, by omega, rfl, Lib.hid (Fr.refl _ _)⟩
  case round =>
    obtain ⟨k, hk, rfl, HF⟩ := hrel
    rename World => wr
    by_cases hlt : k < 2
    · have hki : (k : Int) < 2 := by omega
      obtain ⟨v, hv, hbad⟩ : ∃ v, wr.cell? ⟨W.heap.size + 2, k, none⟩ = some v ∧ Bad wr v := by
        have h2 := HF.out.blk H0.out.2.2.2 (by simp)
        have h3 := (HF.out.blk H0.out.2.2.1 (by simp)).cell 6
        have hk2 : k = 0 ∨ k = 1 := by omega
        rcases hk2 with rfl | rfl
        · exact ⟨_, h2.cell 0, .inl rfl⟩
        · exact ⟨_, h2.cell 1, .inr ⟨_, rfl, h3⟩⟩
      have hrb := HF.out.blk H0.out.2.1 (by simp)
      have q0 := hrb.cell 0; have q1 := hrb.cell 1; have q2 := hrb.cell 2; have q3 := hrb.cell 3
      simp only [List.getElem?_cons_zero, List.getElem?_cons_succ] at q0 q1 q2 q3
      have A1 := Lib.hid (ins_bad hbad u b wt t t)
      have HB := Lib.hid (And.intro hbad hrb); clear hbad hrb
      go_wp2_with fail
      refine A1.out.mono ?_
      rintro _ w2 ⟨rfl, hF2⟩
      have hF3 : Fr [] wr (w2.alloc (.cells #[.int .i64 0, .int .u64 0, .int .u64 0, .int .u64 0, .int .i64 0, .int .i64 0, .int .i64 0] 34)) := hF2.alloc _
      have hx3 : Blk (w2.alloc (.cells #[.int .i64 0, .int .u64 0, .int .u64 0, .int .u64 0, .int .i64 0, .int .i64 0, .int .i64 0] 34)) w2.heap.size 34 [.int .i64 0, .int .u64 0, .int .u64 0, .int .u64 0, .int .i64 0, .int .i64 0, .int .i64 0] := Blk.new w2 [.int .i64 0, .int .u64 0, .int .u64 0, .int .u64 0, .int .i64 0, .int .i64 0, .int .i64 0] 34
      have A2 := Lib.hid (rem_bad (HB.out.1.fr0 hF3) n)
      have HX3 := Lib.hid (And.intro hF3 hx3)
      clear q0 q1 q2 q3 hv hF2 hF3 hx3 A1
      simp only [lvA, Lv.z, Int.ofNat_zero]
      go_wp2_with fail
      refine A2.out.mono ?_
      rintro _ w4 ⟨rfl, hF4⟩
      have hF5 : Fr [] wr (w4.alloc (.cells #[.int .i64 0, .int .u64 0, .int .u64 0, .int .u64 0, .int .i64 0, .int .i64 0, .int .i64 0] 34)) := (HX3.out.1.trans' hF4).alloc _
      have hy5 : Blk (w4.alloc (.cells #[.int .i64 0, .int .u64 0, .int .u64 0, .int .u64 0, .int .i64 0, .int .i64 0, .int .i64 0] 34)) w4.heap.size 34 [.int .i64 0, .int .u64 0, .int .u64 0, .int .u64 0, .int .i64 0, .int .i64 0, .int .i64 0] := Blk.new w4 [.int .i64 0, .int .u64 0, .int .u64 0, .int .u64 0, .int .i64 0, .int .i64 0, .int .i64 0] 34
      have A3 := Lib.hid (get_bad (HB.out.1.fr0 hF5) n)
      have HX5 := Lib.hid (And.intro hF5 (And.intro ((hF4.blk HX3.out.2 (by simp)).alloc (.cells #[.int .i64 0, .int .u64 0, .int .u64 0, .int .u64 0, .int .i64 0, .int .i64 0, .int .i64 0] 34)) hy5))
      clear hF4 hF5 hy5 A2 HX3
      simp only [lvA, Lv.z, Int.ofNat_zero]
      go_wp2_with fail
      refine A3.out.mono ?_
      rintro _ w6 ⟨rfl, hF6⟩
      have hF7 : Fr [] wr (w6.alloc (.cells #[.int .i64 0, .int .u64 0, .int .u64 0, .int .u64 0, .int .i64 0, .int .i64 0, .int .i64 0] 34)) := (HX5.out.1.trans' hF6).alloc _
      have hz7 : Blk (w6.alloc (.cells #[.int .i64 0, .int .u64 0, .int .u64 0, .int .u64 0, .int .i64 0, .int .i64 0, .int .i64 0] 34)) w6.heap.size 34 [.int .i64 0, .int .u64 0, .int .u64 0, .int .u64 0, .int .i64 0, .int .i64 0, .int .i64 0] := Blk.new w6 [.int .i64 0, .int .u64 0, .int .u64 0, .int .u64 0, .int .i64 0, .int .i64 0, .int .i64 0] 34
      have A4 := Lib.hid (index_bad (HB.out.1.fr0 hF7) u)
      have A5 := Lib.hid (id_bad (HB.out.1.fr0 hF7) n)
      have A6 := Lib.hid (check_bad (HB.out.1.fr0 hF7) u b wt t)
      have HX7 := Lib.hid (And.intro hF7 (And.intro ((hF6.blk HX5.out.2.1 (by simp)).alloc (.cells #[.int .i64 0, .int .u64 0, .int .u64 0, .int .u64 0, .int .i64 0, .int .i64 0, .int .i64 0] 34)) (And.intro ((hF6.blk HX5.out.2.2 (by simp)).alloc (.cells #[.int .i64 0, .int .u64 0, .int .u64 0, .int .u64 0, .int .i64 0, .int .i64 0, .int .i64 0] 34)) hz7)))
      have hrb := hF7.blk HB.out.2 (by simp)
      have q0 := hrb.cell 0; have q1 := hrb.cell 1; have q2 := hrb.cell 2; have q3 := hrb.cell 3
      simp only [List.getElem?_cons_zero, List.getElem?_cons_succ] at q0 q1 q2 q3
      clear hrb hF6 hF7 hz7 A3 HX5
      simp only [lvA, Lv.z, Int.ofNat_zero]
      go_wp2_with fail
      refine A4.out.mono ?_
      rintro _ w7 ⟨rfl, rfl⟩
      go_wp2_with fail
      refine A5.out.mono ?_
      rintro _ w7 ⟨rfl, rfl⟩
      go_wp2_with fail
      refine A6.out.mono ?_
      rintro _ w8 ⟨rfl, hF8⟩
      clear q0 q1 q2 q3 A4 A5 A6
      have h1 := hF8.blk HX7.out.2.1 (by simp)
      have h2 := hF8.blk HX7.out.2.2.1 (by simp)
      have h3 := hF8.blk HX7.out.2.2.2 (by simp)
      have x0 := h1.cell 0; have x1 := h1.cell 1; have x2 := h1.cell 2; have x3 := h1.cell 3; have x4 := h1.cell 4; have x5 := h1.cell 5; have x6 := h1.cell 6
      have y0 := h2.cell 0; have y1 := h2.cell 1; have y2 := h2.cell 2; have y3 := h2.cell 3; have y4 := h2.cell 4; have y5 := h2.cell 5; have y6 := h2.cell 6
      have z0 := h3.cell 0; have z1 := h3.cell 1; have z2 := h3.cell 2; have z3 := h3.cell 3; have z4 := h3.cell 4; have z5 := h3.cell 5; have z6 := h3.cell 6
      simp only [List.getElem?_cons_zero, List.getElem?_cons_succ] at x0 x1 x2 x3 x4 x5 x6 y0 y1 y2 y3 y4 y5 y6 z0 z1 z2 z3 z4 z5 z6
      have hF9 := HX7.out.1.trans' hF8
      have hrb := hF9.blk HB.out.2 (by simp)
      have q0 := hrb.cell 0
      simp only [List.getElem?_cons_zero] at q0
      have hbad := HB.out.1.fr0 hF9
      have B1 := Lib.hid (incident_bad hbad u)
      have B2 := Lib.hid (len_bad hbad)
      have B3 := Lib.hid (verts_bad hbad)
      have B4 := Lib.hid (list_bad hbad)
      have B5 := Lib.hid (ids_bad hbad)
      have B6 := Lib.hid (copy_bad hbad)
      have HF9 := Lib.hid (HF.out.trans' hF9)
      clear h1 h2 h3 hF8 hF9 hrb hbad HX7 HB HF
      go_wp2_with fail
      refine B1.out.mono ?_
      rintro _ w8 ⟨rfl, rfl⟩
      go_wp2_with fail
      refine B2.out.mono ?_
      rintro _ w8 ⟨rfl, rfl⟩
      go_wp2_with fail
      refine B3.out.mono ?_
      rintro _ w8 ⟨rfl, rfl⟩
      go_wp2_with fail
      refine B4.out.mono ?_
      rintro _ w8 ⟨rfl, rfl⟩
      go_wp2_with fail
      refine B5.out.mono ?_
      rintro _ w8 ⟨rfl, rfl⟩
      go_wp2_with fail
      refine B6.out.mono ?_
      rintro _ w8 ⟨rfl, rfl⟩
      go_wp2_with fail
      exact ⟨⟨k + 1, by omega, by go_num, HF9⟩, by simp [intOf]; omega⟩
    · obtain rfl : k = 2 := by omega
      go_wp2_with fail
      refine (HWk.out _).mono ?_
      rintro _ w9 ⟨rfl, hF9⟩
      have HF9 := Lib.hid ((H0.out.1.trans' HF.out).trans' hF9); clear hF9
      go_wp2_with fail
      go_ret
      exact ⟨rfl, HF9.out.below (by simp)⟩
end Go.Proofs.Ytbegdgnhpklceaa

namespace Go.Proofs.Ytbegdgnhpklceaa.storeNil
open Go.ChangeShapes Go.WideShapes Go.ChangeAt Go.RowKit
set_option linter.unusedVariables false

theorem own : ownKnob Try.prog.godebug = none := by kernel_rfl
theorem laidOut : laidOutB Try.prog = true := by kernel_rfl

set_option maxRecDepth 100000 in
theorem lifted (os : Os) (started : os.Started) (H : Type) (enc : TypeId × Value → H) :
    ReturnsInHanded {} Try.checked os 9 .any (Rows.storeNilSpec.pre6 enc Try.prog Try.f9 Rows.storeNilRow.domain false) (Rows.storeNilSpec.post enc Try.prog Try.f9 false true false false) := by
  refine returnsInHanded_of_change (C := Try.checked) own started (by kernel_rfl) Try.func9
    (ChangeSpec.witness6 (enc := enc) (C := Try.checked) false ⟨#[], #[.agg #[.int .u64 0, .int .u64 0, .int .i64 0, .int .i64 0], .int .i64 0], []⟩ 8 (by kernel_rfl) (by kernel_rfl) (by kernel_rfl) (by kernel_rfl)) ?_
  intro W base args ds gs before hval0 hW hcnd _
  have hval : ∀ (j : Nat) t v, Try.f9.params[j]? = some t → args[j]? = some v → Value.okWide Try.prog W .any base t v := hval0
  have hW' := hW
  obtain ⟨p, q, hA0, hV, rfl, hfz, hnd⟩ := hW
  have hA : DataW.TrodAll enc Try.prog W 0 (fun _ => true) true Try.f9.params.toList args.toList ds p := hA0
  rw [Try.params9] at hA hval
  obtain ⟨v0, vs0, d0, ds0, p0, q0, hargs, rfl, rfl, h0, r0⟩ := trodAll_cons hA
  obtain ⟨v1, vs1, d1, ds1, p1, q1, rfl, rfl, rfl, h1, r1⟩ := trodAll_cons r0
  obtain ⟨rfl, rfl, rfl⟩ := trodAll_nil r1
  obtain rfl : args = #[v0, v1] := by cases args; simp_all
  obtain ⟨rfl, rfl⟩ := trodVars_none hV
  have k0 := h0
  have lt0 : ∀ x ∈ p0, x.block < W.heap.size := by obtain ⟨m, hm⟩ := k0; exact DataW.trod_lt m _ _ _ hm
  obtain ⟨z0, rfl, w0⟩ := open_rec (hval 0 32 v0 rfl rfl) h0
  obtain ⟨a1, rfl, rfl, rfl, w1⟩ := open_int Try.underlying3 (hval 1 3 v1 rfl rfl) h1
  clear hA0 hval0
  refine (walk_storeNil W z0 w0 a1 w1).mono fun e W' ⟨he, bel⟩ => ?_
  subst he
  exact ⟨_, rfl, _, _, _, [], _, [], hW', trodAll_mk1 (shut_bool Try.underlying4 _), (trodAll_cons_mk (Below.trod laidOut (by kernel_rfl) (of_decide_eq_true (by kernel_rfl)) k0 bel lt0) (trodAll_cons_mk (shut_int Try.underlying3 w1) trodAll_mk0)), rfl, bel.frame _, fun h => by cases h⟩

theorem over : Rows.storeNilRow.holds Try.pinned (OpenSpec.ofChange Rows.storeNilSpec) :=
  OpenClaim.holds_of_wide 9 Try.f9 rfl rfl rfl rfl rfl rfl rfl ⟨rfl, rfl, rfl, rfl, rfl⟩ rfl rfl rfl rfl rfl (by kernel_rfl) Try.func9 (by kernel_rfl)
    (of_decide_eq_true (by kernel_rfl)) (by unfold Func.isWrapper; first | (rw [if_pos (by decide +kernel)]; kernel_rfl) | (rw [if_neg (by decide +kernel)]; exact ⟨rfl, rfl⟩))
    (fun os started H enc _ => lifted os started H enc)

end Go.Proofs.Ytbegdgnhpklceaa.storeNil

namespace Go.Proofs.Ytbegdgnhpklceaa
theorem storeNil_holds : Rows.StoreNilSaid := storeNil.over
#print axioms storeNil_holds
end Go.Proofs.Ytbegdgnhpklceaa
