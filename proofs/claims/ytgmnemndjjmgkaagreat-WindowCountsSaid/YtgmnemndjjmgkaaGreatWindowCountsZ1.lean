/- The statement 'WindowCounts': for every input the call returns true, and each argument reads afterwards as it read before. -/
import Derived.Test.YtgmnemndjjmgkaaGreatB28
import Derived.Test.YtgmnemndjjmgkaaGreatB1
set_option linter.unusedSimpArgs false
set_option linter.unusedVariables false
/- WindowCounts: the walk. -/
namespace Go.Proofs.YtgmnemndjjmgkaaGreat
open Go.RowKit Classical
set_option maxRecDepth 10000
set_option maxHeartbeats 1600000
noncomputable def fndB (l : List Lv) (id j : Nat) : Bool := decide (∃ e ∈ l.take j, e.at id = true)
theorem fndB_zero (l : List Lv) (id : Nat) : fndB l id 0 = false := decide_eq_false (by simp)
theorem fndB_step {l : List Lv} {id j : Nat} (hj : j < l.length) : fndB l id (j + 1) = (fndB l id j || l[j].at id) := by
 unfold fndB
 rw [List.take_add_one, List.getElem?_eq_getElem hj]
 by_cases h : l[j].at id = true
 {
 rw [h, Bool.or_true]
 exact decide_eq_true ⟨l[j], List.mem_append.2 (.inr (List.mem_singleton.2 rfl)), h⟩
 }
 {
 have h' : l[j].at id = false := by simpa using h
 rw [h', Bool.or_false]
 refine decide_eq_decide.2 ⟨?_, fun ⟨e, he, hat⟩ => ⟨e, List.mem_append.2 (.inl he), hat⟩⟩
 rintro ⟨e, he, hat⟩
 rcases List.mem_append.1 he with he | he
 · exact ⟨e, he, hat⟩
 {
 have : e = l[j] := by simpa using he
 rw [this] at hat; exact absurd hat h
 }
 }
noncomputable def szN (R : Nat → Nat → Prop) (p : List Nat) (id j : Nat) : Nat := ((p.take j).filter fun b => decide (R id b)).length
theorem szN_zero (R : Nat → Nat → Prop) (p : List Nat) (id : Nat) : szN R p id 0 = 0 := by simp [szN]
theorem szN_step {R : Nat → Nat → Prop} {p : List Nat} {id j : Nat} (hj : j < p.length) : szN R p id (j + 1) = szN R p id j + if R id p[j] then 1 else 0 := by
 unfold szN
 rw [List.take_add_one, List.getElem?_eq_getElem hj, List.filter_append, List.length_append]
 congr 1
 by_cases h : R id p[j] <;> simp [h]
noncomputable def fstB (R : Nat → Nat → Prop) (p : List Nat) (id i j : Nat) : Bool := decide (¬ ∃ b ∈ p.take (min j i), R id b)
theorem fstB_zero (R : Nat → Nat → Prop) (p : List Nat) (id i : Nat) : fstB R p id i 0 = true := decide_eq_true (by simp)
theorem fstB_step {R : Nat → Nat → Prop} {p : List Nat} {id i j : Nat} (hj : j < p.length) : fstB R p id i (j + 1) = if R id p[j] ∧ j < i then false else fstB R p id i j := by
 unfold fstB
 by_cases hi : j < i
 {
 rw [Nat.min_eq_left (by omega), Nat.min_eq_left (by omega), List.take_add_one, List.getElem?_eq_getElem hj]
 by_cases h : R id p[j]
 {
 rw [if_pos ⟨h, hi⟩]
 exact decide_eq_false fun hn => hn ⟨p[j], List.mem_append.2 (.inr (List.mem_singleton.2 rfl)), h⟩
 }
 {
 rw [if_neg fun hh => h hh.1]
 refine decide_eq_decide.2 (not_congr ⟨?_, fun ⟨b, hb, hr⟩ => ⟨b, List.mem_append.2 (.inl hb), hr⟩⟩)
 rintro ⟨b, hb, hr⟩
 rcases List.mem_append.1 hb with hb | hb
 · exact ⟨b, hb, hr⟩
 {
 have : b = p[j] := by simpa using hb
 rw [this] at hr; exact absurd hr h
 }
 }
 }
 · rw [if_neg fun hh => hi hh.2, Nat.min_eq_right (by omega), Nat.min_eq_right (by omega)]
section
variable {W wr w' : World} {p : Nat} {o : Ob} {ts : List Th}
theorem codeI_ids {L : List Lv} {u v : Nat} (hu : u ∈ idsL L) (hv : v ∈ idsL L) : codeI L u v = 0 ∧ connI L u v = decide (Rl L allT u v) := by
 have h1 := idsL_mem.1 hu; have h2 := idsL_mem.1 hv
 refine ⟨if_pos ⟨h1, h2⟩, decide_eq_decide.2 ⟨fun h => h.2.2, fun h => ⟨h1, h2, h⟩⟩⟩
theorem Wd.uAt {l : List Nat} {len cap : Nat} {b i : Nat} (h : Wd W wr (thU (.slice (some ⟨b, 0, none⟩) len cap) l :: ts)) (hi : i < l.length) : wr.cell? ⟨b, i, none⟩ = some (.int .u64 (l[i]'hi)) := by
 obtain ⟨b', cap', e, _, hc⟩ := h.rowU.at hi
 simp only [Value.slice.injEq, Option.some.injEq, Addr.mk.injEq, and_true] at e
 rw [e.1]; exact hc
end
theorem walk_windowCounts (W : World) (a : Option Addr) (len cap : Nat) (z : Nat → Nat × Nat × Nat × Int) (hz : MovesW W a len z) :
    Calls Tryz.prog 5 #[.slice a len cap] W fun e w' => e = .returned (.bool true) ∧ Below W.heap.size W w' := by
 have HWk := Lib.hid (fun w => works37_w w)
 by_cases hlen : len ≤ 100
 {
 have HB := Lib.hid (begun_o W a len cap z hz hlen)
 have d0 : decide ((len : Int) > 100) = false := decide_eq_false (by omega)
 clear hz
 go_enter Tryz.func5, Tryz.ntmps5
 go_wp2_with fail
 refine HB.out.mono ?_
 rintro _ w1 ⟨pw, o, rfl, hW, hO⟩
 have HO := Lib.hid hO
 have HW := Lib.hid hW
 have HC := Lib.hid (td_count hW)
 clear hW HB hO
 go_wp2_with fail
 refine HC.out.mono ?_
 rintro _ w2 ⟨rfl, hF⟩
 have hW := HW.out.fr0 hF
 have HA := Lib.hid (td_added hW)
 have HW := Lib.hid hW
 clear hF hW HC
 go_wp2_with fail
 refine HA.out.mono ?_
 rintro _ w3 ⟨rfl, hF⟩
 have hW := HW.out.fr0 hF
 have HL := Lib.hid (td_live hW)
 clear hF hW HW HA
 go_wp2_with fail
 refine HL.out.mono ?_
 rintro _ w4 ⟨lv, l, rfl, hl, hW⟩
 obtain ⟨la, lc, rfl⟩ := hW.rowV.slice
 obtain ⟨n, hn⟩ : ∃ n, n = o.L.length := ⟨_, rfl⟩
 have hll : l.length = n := by rw [hn, ← hl.1, List.length_map]
 rw [hll] at hW ⊢
 rw [← hn]
 have HI := Lib.hid (td_ids hW.swap)
 have HLv := Lib.hid (And.intro hl hll)
 obtain ⟨ids, hids⟩ : ∃ ids, ids = idsL o.L := ⟨_, rfl⟩
 rw [← hids] at HI ⊢
 have hle := HO.out.ok.leE
 have hlv := HO.out.ok.leV
 have hlast := HO.out.ok.last
 have hol := HO.out.last
 rw [HO.out.E, ← hn] at hle
 rw [HO.out.V, ← hids] at hlv
 rw [← hn] at hlast
 have h64 : IntKind.u64.wrap ((o.last : Int) - o.gone) = n := by rw [hlast]; simp [IntKind.wrap, IntKind.bits, IntKind.signed]; omega
 have h64b : IntKind.u64.wrap (n : Int) = n := by simp [IntKind.wrap, IntKind.bits, IntKind.signed]; omega
 have h64c : IntKind.u64.wrap ((o.last : Int) + o.gone) = (o.last + o.gone : Nat) := by simp [IntKind.wrap, IntKind.bits, IntKind.signed]; omega
 have HLs := Lib.hid (fun (w' : World) (h : RowV w' (.slice la n lc) l) => lives_w h h rfl HLv.out.1.2.1 (n := 40) (fun e he => by have := HLv.out.1.2.2 e he; rw [HO.out.E] at this; exact this) (by rw [HLv.out.2]; omega))
 obtain ⟨R, hR⟩ : ∃ R, R = Rl o.L allT := ⟨_, rfl⟩
 obtain ⟨C, hC⟩ : ∃ C, C = compI o.L := ⟨_, rfl⟩
 rw [← hC]
 have HE := Lib.hid (And.intro hn (And.intro hids (And.intro hR hC)))
 have Hnum := Lib.hid (And.intro hlast hol)
 clear hW hl HL hn hids hR hC hll hlast hol
 go_wp2_with fail
 refine HI.out.mono ?_
 rintro _ w5 ⟨iv, rfl, hW⟩
 obtain ⟨ia, ic, rfl⟩ := hW.rowU.slice
 have HV := Lib.hid (td_version hW.swap)
 have HW := Lib.hid hW
 clear hW HI
 go_wp2_with fail
 refine HV.out.mono ?_
 rintro _ w6 ⟨rfl, hF⟩
 have hW := HW.out.fr0 hF
 have HL6 := Lib.hid (HLs.out _ hW.third.rowV)
 have HW6 := Lib.hid hW
 clear hF hW HV HW
 go_wp2_with fail
 refine HL6.out.mono ?_
 rintro _ w7 ⟨rfl, hF⟩
 have HW7 := Lib.hid (HW6.out.fr0 hF)
 clear hF HL6 HW6 HLs h64 h64b h64c
 go_wp2_with fail
 go_loopw [11] (fun c wr => ∃ (k : Nat), k ≤ n ∧ c = .int .i64 k ∧ Hid (Wd W wr [thU (.slice ia ids.length ic) ids, thO pw o, thV (.slice la n lc) l])) (fun c _ => n - (intOf c).toNat)
 case atStart => exact ⟨0, Nat.zero_le _, rfl, HW7⟩
 case round =>
  obtain ⟨k, hk, rfl, HR⟩ := hrel
  clear HW7
  rename World => wr
  by_cases hkl : k < n
  {
  have hki : (k : Int) < n := by omega
  have hk0 : (0 : Int) ≤ k := by omega
  have hkl' : k < l.length := by rw [HLv.out.2]; exact hkl
  obtain ⟨b, cap', ev, hx1, hx2, hx3, r1⟩ := HR.out.third.rowV.at hkl'
  simp only [Value.slice.injEq] at ev
  obtain ⟨rfl, e40, rfl⟩ := ev
  clear e40 hx1 hx2 hx3
  have hfact : (l[k]'hkl').seq = o.gone + k + 1 ∧ (l[k]'hkl').x = (l[k]'hkl').t + 20 ∧ o.now < (l[k]'hkl').x ∧ (l[k]'hkl').t ≤ o.now ∧ 0 ≤ (l[k]'hkl').t ∧ o.now ≤ 300 := by {
  have hoL : k < o.L.length := by rw [← HE.out.1]; exact hkl
  have e : o.L[k]'hoL = core (l[k]'hkl') := by {
  have h1 : o.L[k]? = (l.map core)[k]? := by rw [HLv.out.1.1]
  rw [List.getElem?_map, List.getElem?_eq_getElem hoL, List.getElem?_eq_getElem hkl'] at h1
  exact Option.some.inj h1
  }
  have h1 := HO.out.ok.num k hoL
  have h2 := HO.out.ok.x _ (List.getElem_mem hoL)
  rw [e] at h1 h2
  rw [HO.out.m] at h2
  have h3 := HO.out.now
  exact ⟨h1, h2.1, h2.2.2.2, h2.2.2.1, h2.2.1, by omega⟩
  }
  generalize l[k]'hkl' = x at *
  obtain ⟨f1, f2, f3, f4, f5, f6⟩ := hfact
  have Hf := Lib.hid (And.intro f3 f4)
  have hgl : o.gone + k + 1 ≤ 200 := by have h1 := Hnum.out.1; have h2 := Hnum.out.2; omega
  have hw1 : IntKind.u64.wrap (k : Int) = k := by simp [IntKind.wrap, IntKind.bits, IntKind.signed]; omega
  have hw2 : IntKind.u64.wrap ((o.gone : Int) + k) = (o.gone : Int) + k := by simp [IntKind.wrap, IntKind.bits, IntKind.signed]; omega
  have hw3 : IntKind.u64.wrap ((o.gone : Int) + k + 1) = (x.seq : Int) := by rw [f1]; simp [IntKind.wrap, IntKind.bits, IntKind.signed]; omega
  have hw4 : IntKind.i64.wrap (x.t + 20) = x.x := by rw [f2]; simp [IntKind.wrap, IntKind.bits, IntKind.signed]; omega
  have d1 : decide (x.x ≤ o.now) = false := decide_eq_false (by omega)
  have d2 : decide (x.t > o.now) = false := decide_eq_false (by omega)
  obtain ⟨x0, x1, x2, x3, x4, x5, x6⟩ := r1
  have HN := Lib.hid (fun (w' : World) (h : Fr [] wr w') => td_now (HR.out.fr0 h).swap)
  have hbx := Blk.new wr (lvC x) 45
  have y1 := hbx.cell 1; have y5 := hbx.cell 5; have y6 := hbx.cell 6
  simp only [lvC, List.getElem?_cons_zero, List.getElem?_cons_succ] at y1 y5 y6
  clear hbx f1 f2 f3 f4 f5 f6 hgl
  go_wp2_with fail
  obtain ⟨wa, hwa⟩ : ∃ wa, wa = wr.alloc (.cells #[.int .i64 x.slot, .int .u64 x.seq, .int .u64 x.u, .int .u64 x.v, .int .i64 x.wt, .int .i64 x.t, .int .i64 x.x] 45) := ⟨_, rfl⟩
  have hFa : Fr [] wr wa := by rw [hwa]; exact (Fr.refl [] wr).alloc _
  rw [← hwa] at y1 y5 y6 ⊢
  have HN := Lib.hid (fun (w' : World) (h : Fr [] wa w') => HN.out w' (hFa.trans' h))
  have HWa := Lib.hid (HR.out.fr0 hFa)
  clear hwa hFa x0 x1 x2 x3 x4 x5 x6
  generalize wr.heap.size = xb at *
  clear HR
  refine region_cw (fun w' => ∃ nq, w' = wa.drewN nq) (by kernel_rfl) (by kernel_rfl) (⟨1, rfl⟩) ?_
  iterate 1 (refine cw_pure (by kernel_rfl) (fun KK hK => ?_); go_simp; refine hK.out _ ?_; clear hK KK)
  refine cw_val (by kernel_rfl) (.int .u64 x.seq) (fun w' hw' => ?_) ?_
  {
  obtain ⟨nq, rfl⟩ := hw'
  go_simp
  first | done | exact ⟨nq, rfl⟩ | exact ⟨rfl, nq, rfl⟩
  }
  iterate 8 (refine cw_pure (by kernel_rfl) (fun KK hK => ?_); go_simp; refine hK.out _ ?_; clear hK KK)
  refine cw_val (by kernel_rfl) (.int .i64 x.x) (fun w' hw' => ?_) ?_
  {
  obtain ⟨nq, rfl⟩ := hw'
  go_simp
  first | done | exact ⟨nq, rfl⟩ | exact ⟨rfl, nq, rfl⟩
  }
  iterate 2 (refine cw_pure (by kernel_rfl) (fun KK hK => ?_); go_simp; refine hK.out _ ?_; clear hK KK)
  refine cw_val (by kernel_rfl) (.int .i64 x.t) (fun w' hw' => ?_) ?_
  {
  obtain ⟨nq, rfl⟩ := hw'
  go_simp
  first | done | exact ⟨nq, rfl⟩ | exact ⟨rfl, nq, rfl⟩
  }
  iterate 5 (refine cw_pure (by kernel_rfl) (fun KK hK => ?_); go_simp; refine hK.out _ ?_; clear hK KK)
  refine cw_val (by kernel_rfl) (.int .i64 x.x) (fun w' hw' => ?_) ?_
  {
  obtain ⟨nq, rfl⟩ := hw'
  go_simp
  first | done | exact ⟨nq, rfl⟩ | exact ⟨rfl, nq, rfl⟩
  }
  iterate 1 (refine cw_pure (by kernel_rfl) (fun KK hK => ?_); go_simp; refine hK.out _ ?_; clear hK KK)
  refine cw_val (by kernel_rfl) (.int .i64 o.now) (fun w' hw' => ?_) ?_
  {
  obtain ⟨nq, rfl⟩ := hw'
  go_simp
  refine (HN.out _ ((Fr.refl [] _).drewN nq)).mono ?_
  rintro _ _ ⟨rfl, rfl⟩
  exact ⟨rfl, nq, rfl⟩
  }
  iterate 5 (refine cw_pure (by kernel_rfl) (fun KK hK => ?_); go_simp; refine hK.out _ ?_; clear hK KK)
  refine cw_val (by kernel_rfl) (.int .i64 x.t) (fun w' hw' => ?_) ?_
  {
  obtain ⟨nq, rfl⟩ := hw'
  go_simp
  first | done | exact ⟨nq, rfl⟩ | exact ⟨rfl, nq, rfl⟩
  }
  iterate 1 (refine cw_pure (by kernel_rfl) (fun KK hK => ?_); go_simp; refine hK.out _ ?_; clear hK KK)
  refine cw_val (by kernel_rfl) (.int .i64 o.now) (fun w' hw' => ?_) ?_
  {
  obtain ⟨nq, rfl⟩ := hw'
  go_simp
  refine (HN.out _ ((Fr.refl [] _).drewN nq)).mono ?_
  rintro _ _ ⟨rfl, rfl⟩
  exact ⟨rfl, nq, rfl⟩
  }
  iterate 2 (refine cw_pure (by kernel_rfl) (fun KK hK => ?_); go_simp; refine hK.out _ ?_; clear hK KK)
  refine cw_nil ?_
  rintro _ ⟨nq, rfl⟩
  have HWn := Lib.hid (HWa.out.fr0 ((Fr.refl [] wa).drewN nq))
  clear y1 y5 y6 HN HWa hw1 hw2 hw3 hw4 d1 d2
  go_wp2_with fail
  go_roundw
  case rel => exact ⟨k + 1, by omega, by go_num, HWn⟩
  case measure => simp [intOf]; omega
  }
  {
  obtain rfl : k = n := by omega
  have HW8 := Lib.hid HR.out
  clear HR hk hkl
  go_wp2_with fail
  go_loopw [13, 14, 15] (fun c1 c2 c3 wr => ∃ (i : Nat), i ≤ ids.length ∧ c1 = .int .i64 (reach R ids (ids.take i) : Nat) ∧ c2 = .int .i64 (ncl R (ids.take i) : Nat) ∧ c3 = .int .i64 i ∧ Hid (Wd W wr [thU (.slice ia ids.length ic) ids, thO pw o, thV (.slice la k lc) l])) (fun _ _ c _ => ids.length - (intOf c).toNat)
  case atStart => exact ⟨0, Nat.zero_le _, by simp [reach_nil], by simp [ncl], rfl, HW8⟩
  case round =>
   obtain ⟨i, hi, rfl, rfl, rfl, HR⟩ := hrel
   clear HW8
   rename World => wr
   by_cases hil : i < ids.length
   {
   have hii : (i : Int) < ids.length := by omega
   have hi0 : (0 : Int) ≤ i := by omega
   obtain ⟨bi, cap', ev, hx1, _⟩ := HR.out.rowU.at hil
   simp only [Value.slice.injEq] at ev
   obtain ⟨rfl, e40, rfl⟩ := ev
   clear e40 hx1
   have HRi := Lib.hid (fun (w' : World) (h : Wd W w' [thU (.slice (some ⟨bi, 0, none⟩) ids.length ic) ids, thO pw o, thV (.slice la k lc) l]) => h.uAt hil)
   have hmem : ids[i]'hil ∈ ids := List.getElem_mem hil
   have hgi : ids[i]? = some (ids[i]'hil) := List.getElem?_eq_getElem hil
   obtain ⟨id, hid⟩ : ∃ id, id = ids[i]'hil := ⟨_, rfl⟩
   rw [← hid] at HRi hmem hgi
   have Hid' := Lib.hid (And.intro hmem hgi)
   clear hid hmem hgi
   obtain ⟨left, hleft⟩ : ∃ left, left = reach R ids (ids.take i) := ⟨_, rfl⟩
   obtain ⟨parts, hparts⟩ : ∃ parts, parts = ncl R (ids.take i) := ⟨_, rfl⟩
   rw [← hleft, ← hparts]
   have Hlp := Lib.hid (And.intro hleft hparts)
   clear hleft hparts
   go_wp2_with fail
   go_loopw [16, 19] (fun c1 c2 wr => ∃ (j : Nat), j ≤ k ∧ c1 = .bool (fndB l id j) ∧ c2 = .int .i64 j ∧ Hid (Wd W wr [thU (.slice (some ⟨bi, 0, none⟩) ids.length ic) ids, thO pw o, thV (.slice la k lc) l])) (fun _ c _ => k - (intOf c).toNat)
   case atStart => exact ⟨0, Nat.zero_le _, by rw [fndB_zero], rfl, HR⟩
   case round =>
    obtain ⟨j, hj, rfl, rfl, HR3⟩ := hrel
    clear HR
    rename World => wr
    by_cases hjn : j < k
    {
    have hjl : j < l.length := by rw [HLv.out.2]; exact hjn
    have hji : (j : Int) < k := by omega
    have hj0 : (0 : Int) ≤ j := by omega
    obtain ⟨bl, cap', ev, hx1, hx2, hx3, r1⟩ := HR3.out.third.rowV.at hjl
    simp only [Value.slice.injEq] at ev
    obtain ⟨rfl, e40, rfl⟩ := ev
    clear e40 hx1 hx2 hx3
    obtain ⟨_, _, x2, x3, _, _, _⟩ := r1
    have q1 := HRi.out _ HR3.out
    have hst := fndB_step (id := id) hjl
    generalize l[j]'hjl = x at *
    obtain ⟨fb, hfb⟩ : ∃ fb, fb = fndB l id j := ⟨_, rfl⟩
    rw [← hfb] at hst ⊢
    clear hfb
    unfold Lv.at at hst
    have HR3d := Lib.hid (fun nq => HR3.out.fr0 ((Fr.refl [] wr).drewN nq))
    clear HR3
    by_cases hu : x.u = id
    {
    have e1 : ((x.u : Int) == id) = true := by simp; omega
    have hst' : fndB l id (j + 1) = true := by rw [hst, hu]; simp
    have Hst := Lib.hid hst'
    clear hst hst' hu
    go_wp2
    go_quiet (fail)
    clear x2 x3 q1 e1
    go_wp2_with fail
    go_roundw
    case rel => exact ⟨j + 1, by omega, by rw [Hst.out], by go_num, Lib.hid (HR3d.out _)⟩
    case measure => simp [intOf]; omega
    }
    {
    have e1 : ((x.u : Int) == id) = false := by simp; omega
    by_cases hv : x.v = id
    {
    have e2 : ((x.v : Int) == id) = true := by simp; omega
    have hst' : fndB l id (j + 1) = true := by rw [hst, hv]; simp
    have Hst := Lib.hid hst'
    clear hst hst' hu hv
    go_wp2
    go_quiet (fail)
    clear x2 x3 q1 e1 e2
    go_wp2_with fail
    go_roundw
    case rel => exact ⟨j + 1, by omega, by rw [Hst.out], by go_num, Lib.hid (HR3d.out _)⟩
    case measure => simp [intOf]; omega
    }
    {
    have e2 : ((x.v : Int) == id) = false := by simp; omega
    have hst' : fndB l id (j + 1) = fb := by {
    have k1 : (x.u == id) = false := by simpa using hu
    have k2 : (x.v == id) = false := by simpa using hv
    rw [hst, k1, k2]; simp
    }
    have Hst := Lib.hid hst'
    clear hst hst' hu hv
    go_wp2
    go_quiet (fail)
    clear x2 x3 q1 e1 e2
    go_wp2_with fail
    go_roundw
    case rel => exact ⟨j + 1, by omega, by rw [Hst.out], by go_num, Lib.hid (HR3d.out _)⟩
    case measure => simp [intOf]; omega
    }
    }
    }
    {
    obtain rfl : j = k := by omega
    have hfnd : fndB l id j = true := by {
    have h1 : inL o.L id := idsL_mem.1 (by rw [← HE.out.2.1]; exact Hid'.out.1)
    rw [← HLv.out.1.1, inL_core] at h1
    obtain ⟨e, he, hat⟩ := h1
    refine decide_eq_true ⟨e, ?_, hat⟩
    rw [← HLv.out.2, List.take_length]; exact he
    }
    rw [hfnd]
    have HW9 := Lib.hid HR3.out
    clear HR3 hj hjn hfnd
    go_wp2_with fail
    go_loopw [17, 18, 20] (fun c1 c2 c3 wr => ∃ (q : Nat), q ≤ ids.length ∧ c1 = .bool (fstB R ids id i q) ∧ c2 = .int .i64 (szN R ids id q : Nat) ∧ c3 = .int .i64 q ∧ Hid (Wd W wr [thU (.slice (some ⟨bi, 0, none⟩) ids.length ic) ids, thO pw o, thV (.slice la j lc) l])) (fun _ _ c _ => ids.length - (intOf c).toNat)
    case atStart => exact ⟨0, Nat.zero_le _, by rw [fstB_zero], by rw [szN_zero]; rfl, rfl, HW9⟩
    case round =>
     obtain ⟨q, hq, rfl, rfl, rfl, HR4⟩ := hrel
     clear HW9
     rename World => wr
     by_cases hql : q < ids.length
     {
     have hqi : (q : Int) < ids.length := by omega
     have hq0 : (0 : Int) ≤ q := by omega
     obtain ⟨id2, hid2⟩ : ∃ id2, id2 = ids[q]'hql := ⟨_, rfl⟩
     have hmem2 : id2 ∈ ids := by rw [hid2]; exact List.getElem_mem hql
     have hsz := szN_step (R := R) (id := id) hql
     have hfs := fstB_step (R := R) (id := id) (i := i) hql
     rw [← hid2] at hsz hfs
     have hszl : szN R ids id q ≤ 12 := Nat.le_trans (List.length_filter_le _ _) (by rw [List.length_take]; omega)
     obtain ⟨rb, hrb⟩ : ∃ rb, rb = decide (R id id2) := ⟨_, rfl⟩
     have HCn := Lib.hid (show ∀ w', Wd W w' [thU (.slice (some ⟨bi, 0, none⟩) ids.length ic) ids, thO pw o, thV (.slice la j lc) l] → Calls Tryz.prog 15 #[wptr pw, .int .u64 id, .int .u64 id2] w' fun e w'' => e = .returned (.tuple #[.bool rb, .int .i64 0]) ∧ Wd W w'' [thU (.slice (some ⟨bi, 0, none⟩) ids.length ic) ids, thO pw o, thV (.slice la j lc) l] from fun w' hw => by
       have hb := HO.out.ok.u64
       have hlt : ∀ x ∈ ids, x < 18446744073709551616 := fun x hx => by
         rw [HE.out.2.1] at hx
         obtain ⟨e, he, hat⟩ := idsL_mem.1 hx
         have := hb e he
         simp only [Lv.at, Bool.or_eq_true, beq_iff_eq] at hat
         omega
       have h1 := td_conn hw.swap id id2 (hlt _ Hid'.out.1) (hlt _ hmem2)
       have h2 := codeI_ids (L := o.L) (u := id) (v := id2) (by rw [← HE.out.2.1]; exact Hid'.out.1) (by rw [← HE.out.2.1]; exact hmem2)
       rw [h2.1, h2.2, ← HE.out.2.2.1, ← hrb] at h1
       exact h1.mono fun _ _ k => ⟨k.1, k.2.swap⟩)
     obtain ⟨sz, hsz0⟩ : ∃ sz, sz = szN R ids id q := ⟨_, rfl⟩
     obtain ⟨fs, hfs0⟩ : ∃ fs, fs = fstB R ids id i q := ⟨_, rfl⟩
     rw [← hsz0] at hsz hszl ⊢
     rw [← hfs0] at hfs ⊢
     clear hsz0 hfs0
     have hwz : IntKind.i64.wrap ((sz : Int) + 1) = (sz : Int) + 1 := by simp [IntKind.wrap, IntKind.bits, IntKind.signed]; omega
     have Hid2 := Lib.hid (And.intro hid2 hrb)
     clear hid2 hrb hmem2
     go_wp2_with fail
     refine region_cw (fun w' => Wd W w' [thU (.slice (some ⟨bi, 0, none⟩) ids.length ic) ids, thO pw o, thV (.slice la j lc) l]) (by kernel_rfl) (by kernel_rfl) (HR4.out.fr0 (Fr.refl [] wr).drew) ?_
     iterate 4 (refine cw_pure (by kernel_rfl) (fun KK hK => ?_); go_simp; refine hK.out _ ?_; clear hK KK)
     refine cw_val (by kernel_rfl) (.int .u64 id) (fun w' hw' => ?_) ?_
     {
     have q1 := HRi.out _ hw'
     go_simp
     first | done | exact hw' | exact ⟨rfl, hw'⟩
     }
     iterate 3 (refine cw_pure (by kernel_rfl) (fun KK hK => ?_); go_simp; refine hK.out _ ?_; clear hK KK)
     refine cw_val (by kernel_rfl) (.int .u64 id2) (fun w' hw' => ?_) ?_
     {
     have q2 := hw'.uAt hql
     rw [← Hid2.out.1] at q2
     go_simp
     first | done | exact hw' | exact ⟨rfl, hw'⟩
     }
     refine cw_val (by kernel_rfl) (.tuple #[.bool rb, .int .i64 0]) (fun w' hw' => ?_) ?_
     {
     go_simp
     exact HCn.out w' hw'
     }
     iterate 5 (refine cw_pure (by kernel_rfl) (fun KK hK => ?_); go_simp; refine hK.out _ ?_; clear hK KK)
     refine cw_nil ?_
     intro w10 hW10
     have HW10 := Lib.hid hW10
     have hrb := Hid2.out.2
     clear hW10 HCn HR4 Hid2
     by_cases hr : R id id2
     {
     rw [decide_eq_true hr] at hrb
     rw [hrb]
     rw [if_pos hr] at hsz
     have HF2 := Lib.hid hsz
     by_cases hlt : q < i
     {
     have hlti : (q : Int) < i := by omega
     rw [if_pos ⟨hr, hlt⟩] at hfs
     have HF1 := Lib.hid hfs
     clear hr hsz hfs hrb hlt
     go_wp2_with fail
     go_roundw
     case rel => exact ⟨q + 1, by omega, by rw [HF1.out], by rw [HF2.out, Int.natCast_add]; rfl, by go_num, HW10⟩
     case measure => simp [intOf]; omega
     }
     {
     have hlti : ¬ (q : Int) < i := by omega
     rw [if_neg fun h => hlt h.2] at hfs
     have HF1 := Lib.hid hfs
     clear hr hsz hfs hrb hlt
     go_wp2_with fail
     go_roundw
     case rel => exact ⟨q + 1, by omega, by rw [HF1.out], by rw [HF2.out, Int.natCast_add]; rfl, by go_num, HW10⟩
     case measure => simp [intOf]; omega
     }
     }
     {
     rw [decide_eq_false hr] at hrb
     rw [hrb]
     rw [if_neg hr, Nat.add_zero] at hsz
     rw [if_neg fun h => hr h.1] at hfs
     have HF2 := Lib.hid hsz
     have HF1 := Lib.hid hfs
     clear hr hsz hfs hrb hwz
     go_wp2_with fail
     go_roundw
     case rel => exact ⟨q + 1, by omega, by rw [HF1.out], by rw [HF2.out]; rfl, by go_num, HW10⟩
     case measure => simp [intOf]; omega
     }
     }
     {
     obtain rfl : q = ids.length := by omega
     have hcl := Hid'.out.1
     rw [HE.out.2.1] at hcl
     have hsz : szN R ids id ids.length = (ids.filter fun b => decide (R id b)).length := by unfold szN; rw [List.take_length]
     have hS : ∀ w', Wd W w' [thU (.slice (some ⟨bi, 0, none⟩) ids.length ic) ids, thO pw o, thV (.slice la j lc) l] → Calls Tryz.prog 26 #[wptr pw, .int .u64 id] w' fun e w'' => e = .returned (.tuple #[.int .i64 (szN R ids id ids.length : Nat), .int .i64 0]) ∧ Wd W w'' [thU (.slice (some ⟨bi, 0, none⟩) ids.length ic) ids, thO pw o, thV (.slice la j lc) l] := fun w' hw => by
       have hb := HO.out.ok.u64
       have hlt : id < 18446744073709551616 := by
         obtain ⟨e, he, hat⟩ := idsL_mem.1 hcl
         have := hb e he
         simp only [Lv.at, Bool.or_eq_true, beq_iff_eq] at hat
         omega
       have h1 := td_size hw.swap id hlt
       have h2 : sizeI o.L id = szN R ids id ids.length := by
         unfold sizeI
         rw [if_pos (idsL_mem.1 hcl), hsz, HE.out.2.1, HE.out.2.2.1]
       rw [h2, (codeI_ids hcl hcl).1] at h1
       exact h1.mono fun _ _ k => ⟨k.1, k.2.swap⟩
     have HS := Lib.hid (hS _ HR4.out)
     have q1 := HRi.out _ HR4.out
     have hsym : ∀ a b, R a b → R b a := by rw [HE.out.2.2.1]; exact fun _ _ h => h.symm
     have htr : ∀ a b c, R a b → R b c → R a c := by rw [HE.out.2.2.1]; exact fun _ _ _ h1 h2 => h1.trans h2
     have htk : ids.take (i + 1) = ids.take i ++ [id] := by rw [List.take_add_one, Hid'.out.2]; rfl
     have hfe : fstB R ids id i ids.length = decide (¬ ∃ b ∈ ids.take i, R id b) := by unfold fstB; rw [Nat.min_eq_right (by omega)]
     have hnl := ncl_snoc hsym htr (ids.take i) id
     rw [← htk, ← Hlp.out.2] at hnl
     have hpl : parts ≤ 12 := by rw [Hlp.out.2]; exact Nat.le_trans (ncl_le _) (by rw [List.length_take]; omega)
     have hll2 : left ≤ 12 := by rw [Hlp.out.1]; exact Nat.le_trans (List.length_filter_le _ _) hlv
     have hszl : szN R ids id ids.length ≤ 12 := by rw [hsz]; exact Nat.le_trans (List.length_filter_le _ _) hlv
     have hro : (∃ b ∈ ids.take i, R id b) → reach R ids (ids.take (i + 1)) = left := fun h => by rw [htk, reach_old hsym htr h, Hlp.out.1]
     have hrn : (¬ ∃ b ∈ ids.take i, R id b) → reach R ids (ids.take (i + 1)) = left + szN R ids id ids.length := fun h => by rw [htk, reach_new hsym htr h, ← Hlp.out.1, hsz]
     obtain ⟨sz, hsz0⟩ : ∃ sz, sz = szN R ids id ids.length := ⟨_, rfl⟩
     rw [← hsz0] at HS hrn hszl ⊢
     have hw1 : IntKind.i64.wrap ((parts : Int) + 1) = (parts : Int) + 1 := by simp [IntKind.wrap, IntKind.bits, IntKind.signed]; omega
     have hw2 : IntKind.i64.wrap ((left : Int) + sz) = (left : Int) + sz := by simp [IntKind.wrap, IntKind.bits, IntKind.signed]; omega
     clear hS hsz hcl hsym htr htk hsz0
     by_cases hf : ∃ b ∈ ids.take i, R id b
     {
     rw [if_pos hf, Nat.add_zero] at hnl
     have hr := hro hf
     have hfe' : fstB R ids id i ids.length = false := by rw [hfe]; exact decide_eq_false fun h => h hf
     rw [hfe']
     have HFin := Lib.hid (And.intro hnl hr)
     clear hnl hr hro hrn hf hfe hfe'
     go_wp2_with fail
     refine HS.out.mono ?_
     rintro _ w11 ⟨rfl, hW11⟩
     have HW11 := Lib.hid hW11
     clear hW11 HS q1 HR4
     go_wp2_with fail
     go_roundw
     case rel => exact ⟨i + 1, by omega, by rw [HFin.out.2], by rw [HFin.out.1]; rfl, by go_num, HW11⟩
     case measure => simp [intOf]; omega
     }
     {
     rw [if_neg hf] at hnl
     have hr := hrn hf
     have hfe' : fstB R ids id i ids.length = true := by rw [hfe]; exact decide_eq_true hf
     rw [hfe']
     have HFin := Lib.hid (And.intro hnl hr)
     clear hnl hr hro hrn hf hfe hfe'
     go_wp2_with fail
     refine HS.out.mono ?_
     rintro _ w11 ⟨rfl, hW11⟩
     have HW11 := Lib.hid hW11
     clear hW11 HS q1 HR4
     go_wp2_with fail
     go_roundw
     case rel => exact ⟨i + 1, by omega, by rw [HFin.out.2, Int.natCast_add], by rw [HFin.out.1, Int.natCast_add]; rfl, by go_num, HW11⟩
     case measure => simp [intOf]; omega
     }
     }
    }
   }
   {
   obtain rfl : i = ids.length := by omega
   have hrf : reach R ids (ids.take ids.length) = ids.length := by {
   rw [List.take_length]
   refine reach_all ?_ ids
   rw [HE.out.2.2.1]; exact fun a => .refl a
   }
   have hnf : ncl R (ids.take ids.length) = C := by rw [List.take_length, HE.out.2.2.2, HE.out.2.2.1, HE.out.2.1]; rfl
   rw [hrf, hnf]
   have HFr := Lib.hid HR.out.frm
   clear HR hrf hnf
   go_wp2_with fail
   refine (HWk.out _).mono ?_
   rintro _ w12 ⟨rfl, hF⟩
   have HF := Lib.hid (HFr.out.trans' hF); clear hF
   go_wp2
   go_ret
   exact ⟨rfl, HF.out.below (by simp)⟩
   }
  }
 }
 {
 have d0 : decide ((len : Int) > 100) = true := decide_eq_true (by omega)
 clear hz hlen
 go_enter Tryz.func5, Tryz.ntmps5
 go_wp2_with fail
 refine (HWk.out _).mono ?_
 rintro _ w1 ⟨rfl, hF⟩
 have HF := Lib.hid hF; clear hF
 go_wp2
 go_ret
 exact ⟨rfl, HF.out.below (by simp)⟩
 }
end Go.Proofs.YtgmnemndjjmgkaaGreat

namespace Go.Proofs.YtgmnemndjjmgkaaGreat.windowCounts
open Go.ChangeShapes Go.WideShapes Go.ChangeAt Go.RowKit
set_option linter.unusedVariables false
theorem own : ownKnob Tryz.prog.godebug = none := by kernel_rfl
theorem laidOut : laidOutB Tryz.prog = true := by kernel_rfl
set_option maxRecDepth 100000 in
theorem lifted (os : Os) (started : os.Started) (H : Type) (enc : TypeId × Value → H) :
    ReturnsInHanded {} Tryz.checked os 5 .any (Rows.windowCountsSpec.pre6 enc Tryz.prog Tryz.f5 Rows.windowCountsRow.domain false) (Rows.windowCountsSpec.post enc Tryz.prog Tryz.f5 false true false false) := by
 refine returnsInHanded_of_change (C := Tryz.checked) own started (by kernel_rfl) Tryz.func5
   (ChangeSpec.witness6 (enc := enc) (C := Tryz.checked) false ⟨#[], #[.slice none 0 0], []⟩ 8 (by kernel_rfl) (by kernel_rfl) (by kernel_rfl) (by kernel_rfl)) ?_
 intro W base args ds gs before hval0 hW hcnd _
 have hval : ∀ (j : Nat) t v, Tryz.f5.params[j]? = some t → args[j]? = some v → Value.okWide Tryz.prog W .any base t v := hval0
 have hW' := hW
 obtain ⟨p, q, hA0, hV, rfl, hfz, hnd⟩ := hW
 have hA : DataW.TrodAll enc Tryz.prog W 0 (fun _ => true) true Tryz.f5.params.toList args.toList ds p := hA0
 rw [Tryz.params5] at hA hval
 obtain ⟨v0, vs0, d0, ds0, p0, q0, hargs, rfl, rfl, h0, r0⟩ := trodAll_cons hA
 obtain ⟨rfl, rfl, rfl⟩ := trodAll_nil r0
 obtain rfl : args = #[v0] := by cases args; simp_all
 obtain ⟨rfl, rfl⟩ := trodVars_none hV
 obtain ⟨a0, len0, cap0, rfl⟩ := okWide_slice Tryz.underlying22 (hval 0 22 v0 rfl rfl)
 have k0 := h0
 have lt0 : ∀ x ∈ p0, x.block < W.heap.size := by obtain ⟨m, hm⟩ := k0; exact DataW.trod_lt m _ _ _ hm
 obtain ⟨z0, w0⟩ := open_moves37 h0
 clear hA0 hval0
 refine (walk_windowCounts W a0 len0 cap0 z0 w0).mono fun e W' ⟨he, bel⟩ => ?_
 subst he
 exact ⟨_, rfl, _, _, _, [], _, [], hW', trodAll_mk1 (shut_bool Tryz.underlying4 _), (trodAll_cons_mk (Below.trod laidOut (by kernel_rfl) (of_decide_eq_true (by kernel_rfl)) k0 bel lt0) trodAll_mk0), rfl, bel.frame _, fun h => by cases h⟩
theorem over : Rows.windowCountsRow.holds Tryz.pinned (OpenSpec.ofChange Rows.windowCountsSpec) :=
  OpenClaim.holds_of_wide 5 Tryz.f5 rfl rfl rfl rfl rfl rfl rfl ⟨rfl, rfl, rfl, rfl, rfl⟩ rfl rfl rfl rfl rfl (by kernel_rfl) Tryz.func5 (by kernel_rfl)
    (of_decide_eq_true (by kernel_rfl)) (by unfold Func.isWrapper; first | (rw [if_pos (by decide +kernel)]; kernel_rfl) | (rw [if_neg (by decide +kernel)]; exact ⟨rfl, rfl⟩))
    (fun os started H enc _ => lifted os started H enc)
end Go.Proofs.YtgmnemndjjmgkaaGreat.windowCounts
namespace Go.Proofs.YtgmnemndjjmgkaaGreat
theorem windowCounts_holds : Rows.WindowCountsSaid := windowCounts.over
#print axioms windowCounts_holds
end Go.Proofs.YtgmnemndjjmgkaaGreat
