/- The statement 'WindowRoom': for every input the call returns true, and each argument reads afterwards as it read before. -/
import Derived.Test.YtgmnemndjjmgkaaGreatB28
import Derived.Test.YtgmnemndjjmgkaaGreatB1
set_option linter.unusedSimpArgs false
set_option linter.unusedVariables false
/- WindowRoom: the walk. -/
namespace Go.Proofs.YtgmnemndjjmgkaaGreat
open Go.RowKit Classical
set_option maxRecDepth 10000
set_option maxHeartbeats 1600000
theorem room_first {o : Ob} {k : Nat} (h : Og o k) (h40 : o.L.length = 40) : ∃ e, o.L[0]? = some e ∧ (∀ d ∈ o.L, e.x ≤ d.x) ∧ o.left (e.x - 1) = o.L ∧ (o.left e.x).length < 40 ∧ o.now < e.x ∧ e.x ≤ o.now + 20 := by
 obtain ⟨e, r, hL⟩ : ∃ e r, o.L = e :: r := by {
 cases hh : o.L with
 | nil => rw [hh] at h40; cases h40
 | cons e r => exact ⟨e, r, rfl⟩
 }
 have hmin : ∀ d ∈ o.L, e.x ≤ d.x := by {
 intro d hd
 have hm := h.ok.mono
 rw [hL, List.pairwise_cons] at hm
 have h1 := h.ok.x d hd
 have h2 := h.ok.x e (by rw [hL]; simp)
 rw [hL] at hd
 rcases List.mem_cons.1 hd with rfl | hd
 · exact Int.le_refl _
 · have := hm.1 d hd; omega
 }
 have he := h.edge (e := e) (by rw [hL]; simp)
 refine ⟨e, by rw [hL]; rfl, hmin, left_all fun d hd => by have := hmin d hd; omega, ?_, he.1, he.2⟩
 unfold Ob.left
 rw [hL, List.filter_cons_of_neg (by simp)]
 have : r.length + 1 = 40 := by rw [hL] at h40; exact h40
 have := List.length_filter_le (fun d : Lv => decide (e.x < d.x)) r
 omega
theorem walk_windowRoom (W : World) (a : Option Addr) (len cap : Nat) (z : Nat → Nat × Nat × Nat × Int) (hz : MovesW W a len z) (x : Int) (hx : (Lit.int .u8 x).wf = true) (y : Int) (hy : (Lit.int .u8 y).wf = true) :
    Calls Tryz.prog 4 #[.slice a len cap, .int .u8 x, .int .u8 y] W fun e w' => e = .returned (.bool true) ∧ Below W.heap.size W w' := by
 have HWk := Lib.hid (fun w => works37_w w)
 obtain ⟨mu, rfl, l1⟩ := u8_wf hx
 obtain ⟨mv, rfl, l2⟩ := u8_wf hy
 have hu12 : ((mu : Int) % 12) = ((mu % 12 : Nat) : Int) := by omega
 have hv12 : ((mv : Int) % 12) = ((mv % 12 : Nat) : Int) := by omega
 have hlu : mu % 12 < 12 := Nat.mod_lt _ (by omega)
 have hlv : mv % 12 < 12 := Nat.mod_lt _ (by omega)
 have hwu : IntKind.u64.wrap ((mu : Int).tmod 12) = ((mu % 12 : Nat) : Int) := by rw [Int.tmod_eq_emod_of_nonneg (by omega)]; simp [IntKind.wrap, IntKind.bits, IntKind.signed]; omega
 have hwv : IntKind.u64.wrap ((mv : Int).tmod 12) = ((mv % 12 : Nat) : Int) := by rw [Int.tmod_eq_emod_of_nonneg (by omega)]; simp [IntKind.wrap, IntKind.bits, IntKind.signed]; omega
 clear hx hy
 generalize mu % 12 = u at *
 generalize mv % 12 = v at *
 by_cases hgo : len ≤ 100 ∧ u ≠ v
 {
 obtain ⟨hlen, hne⟩ := hgo
 have HB := Lib.hid (begun_o W a len cap z hz hlen)
 have d0 : decide ((len : Int) > 100) = false := decide_eq_false (by omega)
 have d1 : ((u : Int) == v) = false := by simp; omega
 have Hn := Lib.hid hne
 clear hz hne
 go_enter Tryz.func4, Tryz.ntmps4
 go_wp2_with fail
 refine HB.out.mono ?_
 rintro _ w1 ⟨pw, o, rfl, hW, hO⟩
 have HO := Lib.hid hO
 have HW := Lib.hid hW
 have HC := Lib.hid (td_count hW)
 clear hW HB hO hwu hwv hu12 hv12
 go_wp2_with fail
 refine HC.out.mono ?_
 rintro _ w2 ⟨rfl, hF⟩
 have hW := HW.out.fr0 hF
 have HL := Lib.hid (td_live hW)
 clear hF hW HW HC
 go_wp2_with fail
 refine HL.out.mono ?_
 rintro _ w3 ⟨lv, l, rfl, hl, hW⟩
 have HCp := Lib.hid (td_copy hW.swap)
 obtain ⟨la, lc, rfl⟩ := hW.rowV.slice
 have hll : l.length = o.L.length := by rw [← hl.1, List.length_map]
 have HLv := Lib.hid hl
 clear hW HL hl
 go_wp2_with fail
 refine HCp.out.mono ?_
 rintro _ w4 ⟨pc, rfl, hW⟩
 have hN := td_now hW.swap
 obtain ⟨n, hn⟩ : ∃ n, n = o.L.length := ⟨_, rfl⟩
 obtain ⟨now, hnow⟩ : ∃ now, now = o.now := ⟨_, rfl⟩
 rw [← hn] at hll ⊢
 rw [hll] at hW
 rw [← hnow] at hN
 have hn0 := HO.out.ok.n0
 have hnb := HO.out.now
 rw [← hnow] at hn0 hnb
 have HN := Lib.hid hN
 have HA := td_add hW u v (by omega) (by omega) 0 now (by omega) (by omega)
 have hcode := HO.out.code hlen hlu hlv Hn.out (t := now) (by omega) (by omega)
 rw [left_all fun e he => (by have := (HO.out.ok.x e he).2.2.2; omega)] at hcode
 rw [← hn] at hcode
 have HW := Lib.hid hW
 clear hW HCp hN
 by_cases h40 : n < 40
 {
 rw [if_neg (by omega)] at hcode
 rw [hcode] at HA
 have hadd : (o.add u v 0 now).L.length = n + 1 := by {
 unfold Ob.add
 rw [if_pos hcode, hnow]
 show (o.left o.now ++ [_]).length = _
 rw [left_all fun e he => (HO.out.ok.x e he).2.2.2, List.length_append, hn]; rfl
 }
 have HA := Lib.hid HA
 have hni : (n : Int) < 40 := by omega
 have hw1 : IntKind.i64.wrap ((n : Int) + 1) = (n : Int) + 1 := by simp [IntKind.wrap, IntKind.bits, IntKind.signed]; omega
 have Hd := Lib.hid (And.intro hadd hn)
 clear hadd hn hcode hnow
 go_wp2_with fail
 refine HN.out.mono ?_
 rintro _ w5 ⟨rfl, rfl⟩
 go_wp2_with fail
 refine HA.out.mono ?_
 rintro _ w6 ⟨rfl, hW⟩
 have hC := td_count hW
 rw [Hd.out.1, Int.natCast_add] at hC
 have HC := Lib.hid hC
 have HW6 := Lib.hid hW
 clear hC hW HA HN HW
 go_wp2_with fail
 refine HC.out.mono ?_
 rintro _ w7 ⟨rfl, hF⟩
 have HW7 := Lib.hid (HW6.out.fr0 hF)
 clear hF HC HW6
 go_wp2_with fail
 refine (HWk.out _).mono ?_
 rintro _ w8 ⟨rfl, hF⟩
 have HF := Lib.hid (HW7.out.frm.trans' hF); clear hF
 go_wp2
 go_ret
 exact ⟨rfl, HF.out.below (by simp)⟩
 }
 {
 have hE := HO.out.ok.leE
 rw [HO.out.E, ← hn] at hE
 rw [if_pos (by omega)] at hcode
 have h40' : n = 40 := by omega
 obtain ⟨e, he, hmin, hlb, hlt, hx1, hx2⟩ := room_first HO.out (by omega)
 rw [hcode] at HA
 have hsame : ∀ t, o.addC u v t = 12 → o.add u v 0 t = o := fun t ht => by unfold Ob.add; rw [ht]; rfl
 rw [hsame now hcode] at HA
 have HA := Lib.hid HA
 subst h40'
 have hx0 : l[0]? = some e ∨ ∃ d, l[0]? = some d ∧ d.x = e.x := by {
 right
 have hh : (l.map core)[0]? = some e := by rw [HLv.out.1]; exact he
 rw [List.getElem?_map] at hh
 cases hd : l[0]? with
 | none => rw [hd] at hh; cases hh
 | some d => {
 rw [hd] at hh
 exact ⟨d, rfl, by rw [← Option.some.inj hh]; rfl⟩
 }
 }
 have hx0' : ∃ d, l[0]? = some d ∧ d.x = e.x := hx0.elim (fun h => ⟨e, h, rfl⟩) id
 obtain ⟨d, hd, hdx⟩ := hx0'
 obtain ⟨X, hX⟩ : ∃ X, X = e.x := ⟨_, rfl⟩
 rw [← hX] at hmin hlb hlt hx1 hx2 hdx
 have hcb := HO.out.code hlen hlu hlv Hn.out (t := X - 1) (by omega) (by omega)
 rw [hlb, if_pos (by omega)] at hcb
 have hct := HO.out.code hlen hlu hlv Hn.out (t := X) (by omega) (by omega)
 rw [if_neg (by omega)] at hct
 have hnt : (o.add u v 0 X).now = X := by unfold Ob.add; rw [if_pos hct]; rfl
 have HP := Lib.hid (And.intro hcb (And.intro hct (And.intro hnt (And.intro hd (And.intro hdx (hsame (X - 1) hcb))))))
 have hxb : 0 ≤ X ∧ X ≤ 1000 := by omega
 have HXb := Lib.hid (And.intro hx1 (And.intro hx2 hnow))
 clear hcb hct hnt hd hdx hsame hcode hX hmin hlb hlt hx1 hx2 he hx0 hn hnow h40 hE
 go_wp2_with fail
 refine HN.out.mono ?_
 rintro _ w5 ⟨rfl, rfl⟩
 go_wp2_with fail
 refine HA.out.mono ?_
 rintro _ w6 ⟨rfl, hW⟩
 have HV := Lib.hid (td_version hW)
 have HW6 := Lib.hid hW
 clear hW HA HN HW
 go_wp2_with fail
 refine HV.out.mono ?_
 rintro _ w7 ⟨rfl, hF⟩
 have hW := (HW6.out.fr0 hF).swap
 have HV := Lib.hid (td_version hW)
 have HW7 := Lib.hid hW
 clear hF HW6 hW
 go_wp2_with fail
 refine HV.out.mono ?_
 rintro _ w8 ⟨rfl, hF⟩
 have hW := (HW7.out.fr0 hF).swap
 have HN1 := Lib.hid (td_now hW)
 have HN2 := Lib.hid (td_now hW.swap)
 have HW8 := Lib.hid hW
 clear hF HW7 hW HV
 go_wp2_with fail
 refine HN1.out.mono ?_
 rintro _ w9 ⟨rfl, rfl⟩
 go_wp2_with fail
 refine HN2.out.mono ?_
 rintro _ w9 ⟨rfl, rfl⟩
 have hrow := HW8.out.third.rowV
 obtain ⟨hi0, hd0⟩ := List.getElem?_eq_some_iff.1 HP.out.2.2.2.1
 obtain ⟨b, cap', ev, hx1, hb, hx2, hx3⟩ := hrow.at hi0
 simp only [Value.slice.injEq] at ev
 obtain ⟨rfl, e40, rfl⟩ := ev
 clear e40
 have HRd := Lib.hid (show ∀ w', RowV w' (.slice (some ⟨b, 0, none⟩) 40 lc) l → w'.cell? ⟨b, 6, none⟩ = some (.int .i64 X) from fun w' hr => by
   obtain ⟨b', cap', ev, _, hb, _, hlv⟩ := hr.at hi0
   obtain ⟨_, _, _, _, _, _, h7⟩ := hlv
   rw [hd0, HP.out.2.2.2.2.1] at h7
   simp only [Nat.zero_mul, Nat.zero_add] at h7
   simp only [Value.slice.injEq, Option.some.injEq, Addr.mk.injEq, and_true, true_and] at ev
   rw [ev.1]; exact h7)
 have h6 := HRd.out _ hrow
 have hll0 : (0 : Int) < 40 := by omega
 have hA := td_add HW8.out u v (by omega) (by omega) 0 (X - 1) (by omega) (by omega)
 rw [HP.out.1, HP.out.2.2.2.2.2] at hA
 have HA := Lib.hid hA
 have hw1 : IntKind.i64.wrap (X - 1) = X - 1 := by simp [IntKind.wrap, IntKind.bits, IntKind.signed]; omega
 clear hA hrow hx1 hx2 hx3 hi0 hd0 hb HN1 HN2 HV hll HW8
 go_wp2_with fail
 refine HA.out.mono ?_
 rintro _ w10 ⟨rfl, hW⟩
 have h7 := HRd.out _ hW.third.rowV
 have hA := td_add hW u v (by omega) (by omega) 0 X (by omega) (by omega)
 rw [HP.out.2.1] at hA
 have HA2 := Lib.hid hA
 clear hA h6 HA hw1 hW
 go_wp2_with fail
 refine HA2.out.mono ?_
 rintro _ w11 ⟨rfl, hW⟩
 have HN := Lib.hid (show ∀ w', Wd W w' [thO pc (o.add u v 0 X), thO pw o, thV (.slice (some ⟨b, 0, none⟩) 40 lc) l] → Calls Tryz.prog 16 #[wptr pc] w' fun e w'' => e = .returned (.int .i64 X) ∧ w'' = w' from fun w' hw => by
   have := td_now hw
   rw [HP.out.2.2.1] at this
   exact this)
 have HW11 := Lib.hid hW
 clear h7 HA2 hW
 go_wp2_with fail
 refine region_cw (fun w' => Wd W w' [thO pc (o.add u v 0 X), thO pw o, thV (.slice (some ⟨b, 0, none⟩) 40 lc) l]) (by kernel_rfl) (by kernel_rfl) (HW11.out.fr0 (Fr.refl [] w11).drew) ?_
 iterate 8 (refine cw_pure (by kernel_rfl) (fun KK hK => ?_); go_simp; refine hK.out _ ?_; clear hK KK)
 refine cw_val (by kernel_rfl) (.int .i64 X) (fun w' hw' => ?_) ?_
 {
 go_simp
 refine (HN.out w' hw').mono ?_
 rintro _ _ ⟨rfl, rfl⟩
 exact ⟨rfl, hw'⟩
 }
 iterate 3 (refine cw_pure (by kernel_rfl) (fun KK hK => ?_); go_simp; refine hK.out _ ?_; clear hK KK)
 refine cw_val (by kernel_rfl) (.int .i64 X) (fun w' hw' => ?_) ?_
 {
 have h8 := HRd.out _ hw'.third.rowV
 go_simp
 first | exact hw' | exact ⟨rfl, hw'⟩ | skip
 }
 iterate 3 (refine cw_pure (by kernel_rfl) (fun KK hK => ?_); go_simp; refine hK.out _ ?_; clear hK KK)
 refine cw_val (by kernel_rfl) (.bool true) (fun w' hw' => ?_) ?_
 {
 go_simp
 refine (HWk.out w').mono ?_
 rintro _ w'' ⟨rfl, hF⟩
 exact ⟨rfl, hw'.fr0 hF⟩
 }
 iterate 2 (refine cw_pure (by kernel_rfl) (fun KK hK => ?_); go_simp; refine hK.out _ ?_; clear hK KK)
 refine cw_nil ?_
 intro w12 hW12
 have HB12 := Lib.hid hW12.below
 clear hW12
 go_wp2
 go_ret
 exact ⟨rfl, HB12.out⟩
 }
 }
 {
 by_cases hlen : len ≤ 100
 {
 have huv : u = v := by {
 apply Classical.byContradiction
 exact fun h => hgo ⟨hlen, h⟩
 }
 subst huv
 have d0 : decide ((len : Int) > 100) = false := decide_eq_false (by omega)
 clear hz hgo
 go_enter Tryz.func4, Tryz.ntmps4
 go_wp2_with fail
 refine (HWk.out _).mono ?_
 rintro _ w1 ⟨rfl, hF⟩
 have HF := Lib.hid hF; clear hF
 go_wp2
 go_ret
 exact ⟨rfl, HF.out.below (by simp)⟩
 }
 {
 have d0 : decide ((len : Int) > 100) = true := decide_eq_true (by omega)
 clear hz hgo
 go_enter Tryz.func4, Tryz.ntmps4
 go_wp2_with fail
 refine (HWk.out _).mono ?_
 rintro _ w1 ⟨rfl, hF⟩
 have HF := Lib.hid hF; clear hF
 go_wp2
 go_ret
 exact ⟨rfl, HF.out.below (by simp)⟩
 }
 }
end Go.Proofs.YtgmnemndjjmgkaaGreat

namespace Go.Proofs.YtgmnemndjjmgkaaGreat.windowRoom
open Go.ChangeShapes Go.WideShapes Go.ChangeAt Go.RowKit
set_option linter.unusedVariables false
theorem own : ownKnob Tryz.prog.godebug = none := by kernel_rfl
theorem laidOut : laidOutB Tryz.prog = true := by kernel_rfl
set_option maxRecDepth 100000 in
theorem lifted (os : Os) (started : os.Started) (H : Type) (enc : TypeId × Value → H) :
    ReturnsInHanded {} Tryz.checked os 4 .any (Rows.windowRoomSpec.pre6 enc Tryz.prog Tryz.f4 Rows.windowRoomRow.domain false) (Rows.windowRoomSpec.post enc Tryz.prog Tryz.f4 false true false false) := by
 refine returnsInHanded_of_change (C := Tryz.checked) own started (by kernel_rfl) Tryz.func4
   (ChangeSpec.witness6 (enc := enc) (C := Tryz.checked) false ⟨#[], #[.slice none 0 0, .int .u8 0, .int .u8 0], []⟩ 8 (by kernel_rfl) (by kernel_rfl) (by kernel_rfl) (by kernel_rfl)) ?_
 intro W base args ds gs before hval0 hW hcnd _
 have hval : ∀ (j : Nat) t v, Tryz.f4.params[j]? = some t → args[j]? = some v → Value.okWide Tryz.prog W .any base t v := hval0
 have hW' := hW
 obtain ⟨p, q, hA0, hV, rfl, hfz, hnd⟩ := hW
 have hA : DataW.TrodAll enc Tryz.prog W 0 (fun _ => true) true Tryz.f4.params.toList args.toList ds p := hA0
 rw [Tryz.params4] at hA hval
 obtain ⟨v0, vs0, d0, ds0, p0, q0, hargs, rfl, rfl, h0, r0⟩ := trodAll_cons hA
 obtain ⟨v1, vs1, d1, ds1, p1, q1, rfl, rfl, rfl, h1, r1⟩ := trodAll_cons r0
 obtain ⟨v2, vs2, d2, ds2, p2, q2, rfl, rfl, rfl, h2, r2⟩ := trodAll_cons r1
 obtain ⟨rfl, rfl, rfl⟩ := trodAll_nil r2
 obtain rfl : args = #[v0, v1, v2] := by cases args; simp_all
 obtain ⟨rfl, rfl⟩ := trodVars_none hV
 obtain ⟨a0, len0, cap0, rfl⟩ := okWide_slice Tryz.underlying22 (hval 0 22 v0 rfl rfl)
 have k0 := h0
 have lt0 : ∀ x ∈ p0, x.block < W.heap.size := by obtain ⟨m, hm⟩ := k0; exact DataW.trod_lt m _ _ _ hm
 obtain ⟨z0, w0⟩ := open_moves37 h0
 obtain ⟨a1, rfl, rfl, rfl, w1⟩ := open_int Tryz.underlying5 (hval 1 5 v1 rfl rfl) h1
 obtain ⟨a2, rfl, rfl, rfl, w2⟩ := open_int Tryz.underlying5 (hval 2 5 v2 rfl rfl) h2
 clear hA0 hval0
 refine (walk_windowRoom W a0 len0 cap0 z0 w0 a1 w1 a2 w2).mono fun e W' ⟨he, bel⟩ => ?_
 subst he
 exact ⟨_, rfl, _, _, _, [], _, [], hW', trodAll_mk1 (shut_bool Tryz.underlying4 _), (trodAll_cons_mk (Below.trod laidOut (by kernel_rfl) (of_decide_eq_true (by kernel_rfl)) k0 bel lt0) (trodAll_cons_mk (shut_int Tryz.underlying5 w1) (trodAll_cons_mk (shut_int Tryz.underlying5 w2) trodAll_mk0))), rfl, bel.frame _, fun h => by cases h⟩
theorem over : Rows.windowRoomRow.holds Tryz.pinned (OpenSpec.ofChange Rows.windowRoomSpec) :=
  OpenClaim.holds_of_wide 4 Tryz.f4 rfl rfl rfl rfl rfl rfl rfl ⟨rfl, rfl, rfl, rfl, rfl⟩ rfl rfl rfl rfl rfl (by kernel_rfl) Tryz.func4 (by kernel_rfl)
    (of_decide_eq_true (by kernel_rfl)) (by unfold Func.isWrapper; first | (rw [if_pos (by decide +kernel)]; kernel_rfl) | (rw [if_neg (by decide +kernel)]; exact ⟨rfl, rfl⟩))
    (fun os started H enc _ => lifted os started H enc)
end Go.Proofs.YtgmnemndjjmgkaaGreat.windowRoom
namespace Go.Proofs.YtgmnemndjjmgkaaGreat
theorem windowRoom_holds : Rows.WindowRoomSaid := windowRoom.over
#print axioms windowRoom_holds
end Go.Proofs.YtgmnemndjjmgkaaGreat
