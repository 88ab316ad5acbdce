/- The statement 'WindowNil': for every input the call returns true, and each argument reads afterwards as it read before. -/
import Derived.Test.YtgmnemndjjmgkaaGreatB23
import Derived.Test.YtgmnemndjjmgkaaGreatB1
import Derived.Test.YtgmnemndjjmgkaaGreatB9
import Derived.Test.YtgmnemndjjmgkaaGreatB26
import Derived.Test.YtgmnemndjjmgkaaGreatB28
set_option linter.unusedSimpArgs false
set_option linter.unusedVariables false
/- Windows that are nil, or were not made: their contracts. -/
namespace Go.Proofs.YtgmnemndjjmgkaaGreat
open Go.RowKit
set_option maxRecDepth 10000
set_option maxHeartbeats 800000
def BadW (w : World) (v : Value) : Prop := v = .pointer none ∨ ∃ b, v = wptr b ∧ w.cell? ⟨b, 4, none⟩ = some (.pointer none)
theorem BadW.fr {w w' : World} {v : Value} {S : List Nat} (h : BadW w v) (hf : Fr S w w') (hs : ∀ b, v = wptr b → b ∉ S) : BadW w' v := by
 rcases h with h | ⟨b, h, c⟩
 · exact .inl h
 · exact .inr ⟨b, h, hf.cell c (hs b h)⟩
theorem BadW.fr0 {w w' : World} {v : Value} (h : BadW w v) (hf : Fr [] w w') : BadW w' v := h.fr hf (by simp)
section
variable {w : World} {v : Value}
theorem bad_valid (h : BadW w v) : Calls Tryz.prog 41 #[v] w fun e w' => e = .returned (.bool false) ∧ w' = w := by
 rcases h with rfl | ⟨b, rfl, c4⟩
 {
 go_enter Tryz.func41, Tryz.ntmps41
 go_wp2
 go_ret
 exact ⟨rfl, rfl⟩
 }
 {
 go_enter Tryz.func41, Tryz.ntmps41
 go_wp2
 go_ret
 exact ⟨rfl, rfl⟩
 }
theorem bad_count (h : BadW w v) : Calls Tryz.prog 18 #[v] w fun e w' => e = .returned (.tuple #[.int .i64 0, .int .i64 0, .int .i64 0]) ∧ w' = w := by
 have HV := Lib.hid (bad_valid h); clear h
 go_enter Tryz.func18, Tryz.ntmps18
 go_wp2_with fail
 refine HV.out.mono ?_
 rintro _ w ⟨rfl, rfl⟩
 go_wp2
 go_ret3
 exact ⟨rfl, rfl⟩
theorem bad_added (h : BadW w v) : Calls Tryz.prog 23 #[v] w fun e w' => e = .returned (.tuple #[.int .u64 0, .int .u64 0]) ∧ w' = w := by
 have HV := Lib.hid (bad_valid h); clear h
 go_enter Tryz.func23, Tryz.ntmps23
 go_wp2_with fail
 refine HV.out.mono ?_
 rintro _ w ⟨rfl, rfl⟩
 go_wp2
 go_ret2
 exact ⟨rfl, rfl⟩
theorem bad_version (h : BadW w v) : Calls Tryz.prog 22 #[v] w fun e w' => e = .returned (.int .u64 0) ∧ w' = w := by
 have HV := Lib.hid (bad_valid h); clear h
 go_enter Tryz.func22, Tryz.ntmps22
 go_wp2_with fail
 refine HV.out.mono ?_
 rintro _ w ⟨rfl, rfl⟩
 go_wp2
 go_ret
 exact ⟨rfl, rfl⟩
theorem bad_now (h : BadW w v) : Calls Tryz.prog 16 #[v] w fun e w' => e = .returned (.int .i64 0) ∧ w' = w := by
 have HV := Lib.hid (bad_valid h); clear h
 go_enter Tryz.func16, Tryz.ntmps16
 go_wp2_with fail
 refine HV.out.mono ?_
 rintro _ w ⟨rfl, rfl⟩
 go_wp2
 go_ret
 exact ⟨rfl, rfl⟩
theorem bad_live (h : BadW w v) : Calls Tryz.prog 19 #[v] w fun e w' => e = .returned (.slice none 0 0) ∧ w' = w := by
 have HV := Lib.hid (bad_valid h); clear h
 go_enter Tryz.func19, Tryz.ntmps19
 go_wp2_with fail
 refine HV.out.mono ?_
 rintro _ w ⟨rfl, rfl⟩
 go_wp2
 go_ret
 exact ⟨rfl, rfl⟩
theorem bad_ids (h : BadW w v) : Calls Tryz.prog 24 #[v] w fun e w' => e = .returned (.slice none 0 0) ∧ w' = w := by
 have HV := Lib.hid (bad_valid h); clear h
 go_enter Tryz.func24, Tryz.ntmps24
 go_wp2_with fail
 refine HV.out.mono ?_
 rintro _ w ⟨rfl, rfl⟩
 go_wp2
 go_ret
 exact ⟨rfl, rfl⟩
theorem bad_copy (h : BadW w v) : Calls Tryz.prog 20 #[v] w fun e w' => e = .returned (.pointer none) ∧ w' = w := by
 have HV := Lib.hid (bad_valid h); clear h
 go_enter Tryz.func20, Tryz.ntmps20
 go_wp2_with fail
 refine HV.out.mono ?_
 rintro _ w ⟨rfl, rfl⟩
 go_wp2
 go_ret
 exact ⟨rfl, rfl⟩
theorem bad_tick (h : BadW w v) (t : Int) : Calls Tryz.prog 17 #[v, .int .i64 t] w fun e w' => e = .returned (.int .i64 1) ∧ w' = w := by
 have HV := Lib.hid (bad_valid h); clear h
 go_enter Tryz.func17, Tryz.ntmps17
 go_wp2_with fail
 refine HV.out.mono ?_
 rintro _ w ⟨rfl, rfl⟩
 go_wp2
 go_ret
 exact ⟨rfl, rfl⟩
theorem bad_add (h : BadW w v) (u x : Nat) (wt t : Int) : Calls Tryz.prog 21 #[v, recA u x wt t] w fun e w' => e = .returned (.int .i64 1) ∧ Fr [] w w' := by
 have HV := Lib.hid (bad_valid (h.fr0 ((Fr.refl [] w).alloc (.cells #[.int .u64 u, .int .u64 x, .int .i64 wt, .int .i64 t] 42)))); clear h
 have HF := Lib.hid ((Fr.refl [] w).alloc (.cells #[.int .u64 u, .int .u64 x, .int .i64 wt, .int .i64 t] 42))
 go_enter Tryz.func21, Tryz.ntmps21
 go_wp2_with fail
 refine HV.out.mono ?_
 rintro _ w1 ⟨rfl, rfl⟩
 go_wp2
 go_ret
 exact ⟨rfl, HF.out⟩
theorem bad_ends (h : BadW w v) (u x : Nat) : Calls Tryz.prog 38 #[v, .int .u64 u, .int .u64 x] w fun e w' => e = .returned (.tuple #[.int .i64 0, .int .i64 0, .int .i64 1]) ∧ w' = w := by
 have HV := Lib.hid (bad_valid h); clear h
 go_enter Tryz.func38, Tryz.ntmps38
 go_wp2_with fail
 refine HV.out.mono ?_
 rintro _ w ⟨rfl, rfl⟩
 go_wp2
 go_ret3
 exact ⟨rfl, rfl⟩
theorem bad_connected (h : BadW w v) (u x : Nat) : Calls Tryz.prog 15 #[v, .int .u64 u, .int .u64 x] w fun e w' => e = .returned (.tuple #[.bool false, .int .i64 1]) ∧ w' = w := by
 have HV := Lib.hid (bad_ends h u x); clear h
 go_enter Tryz.func15, Tryz.ntmps15
 go_wp2_with fail
 refine HV.out.mono ?_
 rintro _ w ⟨rfl, rfl⟩
 go_wp2
 go_ret2
 exact ⟨rfl, rfl⟩
theorem bad_until (h : BadW w v) (u x : Nat) : Calls Tryz.prog 14 #[v, .int .u64 u, .int .u64 x] w fun e w' => e = .returned (.tuple #[.int .i64 0, .bool false, .int .i64 1]) ∧ w' = w := by
 have HV := Lib.hid (bad_ends h u x); clear h
 go_enter Tryz.func14, Tryz.ntmps14
 go_wp2_with fail
 refine HV.out.mono ?_
 rintro _ w ⟨rfl, rfl⟩
 go_wp2
 go_ret3
 exact ⟨rfl, rfl⟩
theorem bad_size (h : BadW w v) (u : Nat) : Calls Tryz.prog 26 #[v, .int .u64 u] w fun e w' => e = .returned (.tuple #[.int .i64 0, .int .i64 1]) ∧ w' = w := by
 have HV := Lib.hid (bad_ends h u u); clear h
 go_enter Tryz.func26, Tryz.ntmps26
 go_wp2_with fail
 refine HV.out.mono ?_
 rintro _ w ⟨rfl, rfl⟩
 go_wp2
 go_ret2
 exact ⟨rfl, rfl⟩
theorem bad_config (h : BadW w v) : Calls Tryz.prog 33 #[v] w fun e w' => e = .returned (.agg #[.int .i64 0, .int .i64 0, .int .i64 0, .int .i64 0]) ∧ Fr [] w w' := by
 have HV := Lib.hid (bad_valid (h.fr0 ((Fr.refl [] w).alloc (.cells #[.int .i64 0, .int .i64 0, .int .i64 0, .int .i64 0] 55)))); clear h
 have HF := Lib.hid ((Fr.refl [] w).alloc (.cells #[.int .i64 0, .int .i64 0, .int .i64 0, .int .i64 0] 55))
 have hb := Blk.new w [.int .i64 0, .int .i64 0, .int .i64 0, .int .i64 0] 55
 have r0 := hb.cell 0; have r1 := hb.cell 1; have r2 := hb.cell 2; have r3 := hb.cell 3
 simp only [List.getElem?_cons_zero, List.getElem?_cons_succ] at r0 r1 r2 r3
 clear hb
 go_enter Tryz.func33, Tryz.ntmps33
 go_wp2_with fail
 refine HV.out.mono ?_
 rintro _ w1 ⟨rfl, rfl⟩
 go_wp2
 exact bodyPost_ret (v := .agg #[.int .i64 0, .int .i64 0, .int .i64 0, .int .i64 0]) (by simp [results, Tryz.results33, go_sem, r0, r1, r2, r3]) rfl ⟨rfl, HF.out⟩
end
end Go.Proofs.YtgmnemndjjmgkaaGreat

/- Configurations that are compared. -/
namespace Go.Proofs.YtgmnemndjjmgkaaGreat
open Go.RowKit
set_option maxRecDepth 10000
set_option maxHeartbeats 800000
def cfEq (a b c d a' b' c' d' : Int) : Bool := (a == a') && (b == b') && (c == c') && (d == d')
theorem cfEq_self (a b c d : Int) : cfEq a b c d a b c d = true := by simp [cfEq]
@[go_sem high] theorem eqIn_cfg37 (a b c d a' b' c' d' : Int) (w : World) : (Op.equalIn 10000 55 (.agg #[.int .i64 a, .int .i64 b, .int .i64 c, .int .i64 d]) (.agg #[.int .i64 a', .int .i64 b', .int .i64 c', .int .i64 d'])).run Tryz.prog w = .ok (cfEq a b c d a' b' c' d') w := by
 rw [show (10000 : Nat) = 9999 + 1 from rfl, run_equalIn_struct w 9999 _ _ _ (by kernel_rfl) (by kernel_rfl)]
 unfold cfEq
 simp only [Program.fieldsOf, Tryz.underlying55, Op.eqFields]
 go_simp
 by_cases h1 : a = a' <;> by_cases h2 : b = b' <;> by_cases h3 : c = c' <;> by_cases h4 : d = d' <;> simp [h1, h2, h3, h4]
@[go_sem] theorem guard_cfg37 (op : BinOp) (x y : Operand) (xs ys : Array Value) (w : World) : (eqGuard op 55 x y (.agg xs) (.agg ys)).run Tryz.prog w = .ok () w := run_eqGuard_agg w op 55 x y xs ys (by kernel_rfl)
end Go.Proofs.YtgmnemndjjmgkaaGreat

/- A record that is handed in. -/
namespace Go.Proofs.YtgmnemndjjmgkaaGreat
open Go.RowKit
set_option maxRecDepth 10000
theorem flat_rec : Flat Tryz.prog 42 [.i .u64, .i .u64, .i .i64, .i .i64] := by
 refine Flat.struct Tryz.underlying42 (by kernel_rfl) (fun j k hj => ?_)
 have hu : Flat Tryz.prog 26 [.i .u64] := Flat.int Tryz.underlying26 (by kernel_rfl)
 have hi : Flat Tryz.prog 2 [.i .i64] := Flat.int Tryz.underlying2 (by kernel_rfl)
 match j, hj with
 | 0, hj => exact ⟨0, _, _, rfl, hu, by decide, hj⟩
 | 1, hj => exact ⟨1, _, _, rfl, hu, by decide, hj⟩
 | 2, hj => exact ⟨2, _, _, rfl, hi, by decide, hj⟩
 | 3, hj => exact ⟨3, _, _, rfl, hi, by decide, hj⟩
 | j + 4, hj => simp at hj
theorem open_rec {H : Type} {enc : TypeId × Value → H} {W : World} {base : Nat} {v : Value} {d : DataW H} {p : List MemPlace} (hok : Value.okWide Tryz.prog W .any base 42 v)
    (h : DataW.Trod enc Tryz.prog W 0 (fun _ => true) true 42 v d p) : ∃ z : Nat × Nat × Int × Int, v = recA z.1 z.2.1 z.2.2.1 z.2.2.2 ∧ z.1 < U64 ∧ z.2.1 < U64 := by
 obtain ⟨cs, rfl, hsz⟩ := Go.WideShapes.okWide_struct Tryz.underlying42 hok
 have h4 : cs.size = 4 := hsz.trans (by kernel_rfl)
 obtain ⟨fuel, hf⟩ := h
 obtain ⟨v0, e0, n0, rfl, k0⟩ := flat_rec.2 hf 0 _ rfl
 obtain ⟨v1, e1, n1, rfl, k1⟩ := flat_rec.2 hf 1 _ rfl
 obtain ⟨v2, e2, n2, rfl, _⟩ := flat_rec.2 hf 2 _ rfl
 obtain ⟨v3, e3, n3, rfl, _⟩ := flat_rec.2 hf 3 _ rfl
 obtain ⟨u, rfl, hu⟩ := u64_of_wf k0
 obtain ⟨v, rfl, hv⟩ := u64_of_wf k1
 refine ⟨(u, v, n2, n3), ?_, hu, hv⟩
 simp only [Value.cells] at e0 e1 e2 e3
 congr 1
 refine Array.ext_getElem? fun i => ?_
 match i with
 | 0 => simpa using e0
 | 1 => simpa using e1
 | 2 => simpa using e2
 | 3 => simpa using e3
 | i + 4 => rw [Array.getElem?_eq_none (by omega), Array.getElem?_eq_none (by simp)]
end Go.Proofs.YtgmnemndjjmgkaaGreat

/- WindowNil: the walk. -/
namespace Go.Proofs.YtgmnemndjjmgkaaGreat
open Go.RowKit
set_option maxRecDepth 10000
set_option maxHeartbeats 1600000
theorem walk_windowNil (W : World) (z : Nat × Nat × Int × Int) (hz : z.1 < U64 ∧ z.2.1 < U64) :
    Calls Tryz.prog 10 #[recA z.1 z.2.1 z.2.2.1 z.2.2.2] W fun e w' => e = .returned (.bool true) ∧ Below W.heap.size W w' := by
 have HWk := Lib.hid (fun w => works37_w w)
 obtain ⟨u, v, wt, t⟩ := z
 go_enter Tryz.func10, Tryz.ntmps10
 go_wp2_with fail
 obtain ⟨w0, hw0⟩ : ∃ w0, w0 = ((W.alloc (.cells #[.int .u64 u, .int .u64 v, .int .i64 wt, .int .i64 t] 42)).alloc (.cells #[.int .i64 0, .int .i64 0, .int .i64 0, .int .i64 0, .pointer none, .pointer none, .pointer none, .pointer none, .int .u64 0, .int .u64 0] 83)).alloc (.cells #[.pointer none, .pointer (some ⟨W.heap.size + 1, 0, none⟩)] 24) := ⟨_, rfl⟩
 rw [← hw0]
 have hF0 : Fr [] W w0 := by rw [hw0]; exact (((Fr.refl [] W).alloc _).alloc _).alloc _
 have hbr : Blk w0 W.heap.size 42 [.int .u64 u, .int .u64 v, .int .i64 wt, .int .i64 t] := by rw [hw0]; exact ((Blk.new W _ _).alloc _).alloc _
 have hbz : Blk w0 (W.heap.size + 1) 83 [.int .i64 0, .int .i64 0, .int .i64 0, .int .i64 0, .pointer none, .pointer none, .pointer none, .pointer none, .int .u64 0, .int .u64 0] := by {
 rw [hw0]
 have := (Blk.new (W.alloc (.cells #[.int .u64 u, .int .u64 v, .int .i64 wt, .int .i64 t] 42)) [.int .i64 0, .int .i64 0, .int .i64 0, .int .i64 0, .pointer none, .pointer none, .pointer none, .pointer none, .int .u64 0, .int .u64 0] 83).alloc (.cells #[.pointer none, .pointer (some ⟨W.heap.size + 1, 0, none⟩)] 24)
 simpa using this
 }
 have hbs : Blk w0 (W.heap.size + 1 + 1) 24 [.pointer none, .pointer (some ⟨W.heap.size + 1, 0, none⟩)] := by {
 rw [hw0]
 have := Blk.new ((W.alloc (.cells #[.int .u64 u, .int .u64 v, .int .i64 wt, .int .i64 t] 42)).alloc (.cells #[.int .i64 0, .int .i64 0, .int .i64 0, .int .i64 0, .pointer none, .pointer none, .pointer none, .pointer none, .int .u64 0, .int .u64 0] 83)) [.pointer none, .pointer (some ⟨W.heap.size + 1, 0, none⟩)] 24
 simpa using this
 }
 clear hw0
 obtain ⟨br, hr⟩ : ∃ br, br = W.heap.size := ⟨_, rfl⟩
 obtain ⟨bz, hz2⟩ : ∃ bz, bz = br + 1 := ⟨_, rfl⟩
 obtain ⟨bs, hs2⟩ : ∃ bs, bs = bz + 1 := ⟨_, rfl⟩
 rw [← hr, ← hz2] at hbz hbs ⊢
 rw [← hs2] at hbs ⊢
 rw [← hr] at hbr
 clear hr hz2 hs2
 have HB := Lib.hid (And.intro hbr (And.intro hbz (And.intro hbs hF0)))
 clear hbr hbz hbs hF0
 have key : ∀ (wr : World) (i : Nat), Fr [] w0 wr → i < 2 → ∃ p, wr.cell? ⟨bs, i, none⟩ = some p ∧ BadW wr p ∧ ∃ a, p = .pointer a := by {
 intro wr i hF hi
 match i, hi with
 | 0, _ => exact ⟨_, (hF.blk HB.out.2.2.1 (by simp)).cell 0, .inl rfl, _, rfl⟩
 | 1, _ => exact ⟨_, (hF.blk HB.out.2.2.1 (by simp)).cell 1, .inr ⟨bz, rfl, (hF.blk HB.out.2.1 (by simp)).cell 4⟩, _, rfl⟩
 }
 have HK := Lib.hid key
 clear key
 go_loopw [5] (fun c wr => ∃ (i : Nat), i ≤ 2 ∧ c = .int .i64 i ∧ Hid (Fr [] w0 wr)) (fun c _ => 2 - (intOf c).toNat)
 case atStart => exact ⟨0, by omega, rfl, Lib.hid (Fr.refl _ _)⟩
 case round =>
  obtain ⟨i, hi, rfl, HF⟩ := hrel
  rename World => wr
  by_cases hi2 : i < 2
  {
  have hii : (i : Int) < 2 := by omega
  have hi0 : (0 : Int) ≤ i := by omega
  obtain ⟨p, hp, hbad, pa, rfl⟩ := HK.out wr i HF.out hi2
  have hR := HF.out.blk HB.out.1 (by simp)
  have r0 := hR.cell 0; have r1 := hR.cell 1; have r2 := hR.cell 2; have r3 := hR.cell 3
  simp only [List.getElem?_cons_zero, List.getElem?_cons_succ] at r0 r1 r2 r3
  clear hR
  have H1 := Lib.hid (bad_count hbad); have H2 := Lib.hid (bad_added hbad); have H3 := Lib.hid (bad_connected hbad u v); have H4 := Lib.hid (bad_size hbad u); have H5 := Lib.hid (bad_until hbad u v)
  have H6 := Lib.hid (bad_add hbad u v wt t)
  have HBd := Lib.hid hbad
  clear hbad
  go_wp2_with fail
  refine H1.out.mono ?_
  rintro _ wr ⟨rfl, rfl⟩
  go_wp2_with fail
  refine H2.out.mono ?_
  rintro _ wr ⟨rfl, rfl⟩
  go_wp2_with fail
  refine H3.out.mono ?_
  rintro _ wr ⟨rfl, rfl⟩
  go_wp2_with fail
  refine H4.out.mono ?_
  rintro _ wr ⟨rfl, rfl⟩
  go_wp2_with fail
  refine H5.out.mono ?_
  rintro _ wr ⟨rfl, rfl⟩
  go_wp2_with fail
  refine H6.out.mono ?_
  rintro _ w6 ⟨rfl, hF6⟩
  have r3 := hF6.cell r3 (by simp)
  have hbad := HBd.out.fr0 hF6
  have H7 := Lib.hid (bad_tick hbad t); have H8 := Lib.hid (bad_now hbad); have H9 := Lib.hid (bad_version hbad); have H10 := Lib.hid (bad_live hbad); have H11 := Lib.hid (bad_ids hbad); have H12 := Lib.hid (bad_config hbad)
  have HF6 := Lib.hid (HF.out.trans' hF6)
  have HB6 := Lib.hid hbad
  clear hbad hF6 H1 H2 H3 H4 H5 H6 HBd r0 r1 r2 hp
  go_wp2_with fail
  refine H7.out.mono ?_
  rintro _ w6 ⟨rfl, rfl⟩
  go_wp2_with fail
  refine H8.out.mono ?_
  rintro _ w6 ⟨rfl, rfl⟩
  go_wp2_with fail
  refine H9.out.mono ?_
  rintro _ w6 ⟨rfl, rfl⟩
  go_wp2_with fail
  refine H10.out.mono ?_
  rintro _ w6 ⟨rfl, rfl⟩
  go_wp2_with fail
  refine H11.out.mono ?_
  rintro _ w6 ⟨rfl, rfl⟩
  go_wp2_with fail
  refine H12.out.mono ?_
  rintro _ w7 ⟨rfl, hF7⟩
  have H13 := Lib.hid (bad_copy (HB6.out.fr0 hF7))
  have HF7 := Lib.hid (HF6.out.trans' hF7)
  have hcf := cfEq_self 0 0 0 0
  clear hF7 H7 H8 H9 H10 H11 H12 r3 HB6
  go_wp2_with fail
  refine H13.out.mono ?_
  rintro _ w7 ⟨rfl, rfl⟩
  clear H13
  go_wp2_with fail
  go_roundw
  case rel => exact ⟨i + 1, by omega, by go_num, HF7⟩
  case measure => simp [intOf]; omega
  }
  {
  obtain rfl : i = 2 := by omega
  have HFr := Lib.hid (HB.out.2.2.2.trans' HF.out)
  clear HF
  go_wp2_with fail
  refine (HWk.out _).mono ?_
  rintro _ w12 ⟨rfl, hF⟩
  have HF := Lib.hid (HFr.out.trans' hF); clear hF
  go_wp2
  go_ret
  exact ⟨rfl, HF.out.below (by simp)⟩
  }
end Go.Proofs.YtgmnemndjjmgkaaGreat

namespace Go.Proofs.YtgmnemndjjmgkaaGreat.windowNil
open Go.ChangeShapes Go.WideShapes Go.ChangeAt Go.RowKit
set_option linter.unusedVariables false
theorem own : ownKnob Tryz.prog.godebug = none := by kernel_rfl
theorem laidOut : laidOutB Tryz.prog = true := by kernel_rfl
set_option maxRecDepth 100000 in
theorem lifted (os : Os) (started : os.Started) (H : Type) (enc : TypeId × Value → H) :
    ReturnsInHanded {} Tryz.checked os 10 .any (Rows.windowNilSpec.pre6 enc Tryz.prog Tryz.f10 Rows.windowNilRow.domain false) (Rows.windowNilSpec.post enc Tryz.prog Tryz.f10 false true false false) := by
 refine returnsInHanded_of_change (C := Tryz.checked) own started (by kernel_rfl) Tryz.func10
   (ChangeSpec.witness6 (enc := enc) (C := Tryz.checked) false ⟨#[], #[.agg #[.int .u64 0, .int .u64 0, .int .i64 0, .int .i64 0]], []⟩ 8 (by kernel_rfl) (by kernel_rfl) (by kernel_rfl) (by kernel_rfl)) ?_
 intro W base args ds gs before hval0 hW hcnd _
 have hval : ∀ (j : Nat) t v, Tryz.f10.params[j]? = some t → args[j]? = some v → Value.okWide Tryz.prog W .any base t v := hval0
 have hW' := hW
 obtain ⟨p, q, hA0, hV, rfl, hfz, hnd⟩ := hW
 have hA : DataW.TrodAll enc Tryz.prog W 0 (fun _ => true) true Tryz.f10.params.toList args.toList ds p := hA0
 rw [Tryz.params10] at hA hval
 obtain ⟨v0, vs0, d0, ds0, p0, q0, hargs, rfl, rfl, h0, r0⟩ := trodAll_cons hA
 obtain ⟨rfl, rfl, rfl⟩ := trodAll_nil r0
 obtain rfl : args = #[v0] := by cases args; simp_all
 obtain ⟨rfl, rfl⟩ := trodVars_none hV
 have k0 := h0
 have lt0 : ∀ x ∈ p0, x.block < W.heap.size := by obtain ⟨m, hm⟩ := k0; exact DataW.trod_lt m _ _ _ hm
 obtain ⟨z0, rfl, w0⟩ := open_rec (hval 0 42 v0 rfl rfl) h0
 clear hA0 hval0
 refine (walk_windowNil W z0 w0).mono fun e W' ⟨he, bel⟩ => ?_
 subst he
 exact ⟨_, rfl, _, _, _, [], _, [], hW', trodAll_mk1 (shut_bool Tryz.underlying4 _), (trodAll_cons_mk (Below.trod laidOut (by kernel_rfl) (of_decide_eq_true (by kernel_rfl)) k0 bel lt0) trodAll_mk0), rfl, bel.frame _, fun h => by cases h⟩
theorem over : Rows.windowNilRow.holds Tryz.pinned (OpenSpec.ofChange Rows.windowNilSpec) :=
  OpenClaim.holds_of_wide 10 Tryz.f10 rfl rfl rfl rfl rfl rfl rfl ⟨rfl, rfl, rfl, rfl, rfl⟩ rfl rfl rfl rfl rfl (by kernel_rfl) Tryz.func10 (by kernel_rfl)
    (of_decide_eq_true (by kernel_rfl)) (by unfold Func.isWrapper; first | (rw [if_pos (by decide +kernel)]; kernel_rfl) | (rw [if_neg (by decide +kernel)]; exact ⟨rfl, rfl⟩))
    (fun os started H enc _ => lifted os started H enc)
end Go.Proofs.YtgmnemndjjmgkaaGreat.windowNil
namespace Go.Proofs.YtgmnemndjjmgkaaGreat
theorem windowNil_holds : Rows.WindowNilSaid := windowNil.over
#print axioms windowNil_holds
end Go.Proofs.YtgmnemndjjmgkaaGreat
