/- The document's forest: Min, on, Meet. -/
import Derived.Test.YtoppjjgecgbbkaaLctNewsZ11
import Derived.Test.YtoppjjgecgbbkaaLctNewsZ10
/- LctCuts: the plain law, and the walk. -/
namespace Go.Proofs.Ytoppjjgecgbbkaa
open Go.RowKit Classical
set_option maxRecDepth 10000
set_option maxHeartbeats 1600000

section
variable {n : Nat} {E : Nat → Nat → Prop}
theorem wk_del {a b : Nat} : ∀ {x : Nat} {l : List Nat}, Wk E x l → a ∉ x :: l → Wk (delE E a b) x l
  | _, [], _, _ => trivial
  | x, y :: l, ⟨h1, h2⟩, hn => by
    simp only [List.mem_cons, not_or] at hn
    exact ⟨⟨h1, fun e => hn.1 e.1.symm, fun e => hn.2.1 e.2.symm⟩, wk_del h2 (by simp [hn.2.1, hn.2.2])⟩
theorem isPath_mono {E' : Nat → Nat → Prop} (h : ∀ v u, E v u → E' v u) {a b : Nat} {p : List Nat} (hp : IsPath E a b p) : IsPath E' a b p := by
  obtain ⟨l, e, hw, hn, hl⟩ := hp
  exact ⟨l, e, wk_mono h hw, hn, hl⟩
theorem del_conn (h : Frs E) {a b v : Nat} (_he : E a b) {p : List Nat} (hp : IsPath E a v p) : Conn (delE E a b) a v ↔ p[1]? ≠ some b := by
  constructor
  · rintro ⟨q, hq⟩ e
    have := h.unique (isPath_mono (fun _ _ h => h.1) hq) hp
    subst this
    obtain ⟨l, rfl, hw, _, _⟩ := hq
    match l, hw, e with
    | y :: l, ⟨h1, _⟩, e =>
      simp at e; subst e
      exact h1.2.1 ⟨rfl, rfl⟩
  · intro hne
    obtain ⟨l, rfl, hw, hn, hl⟩ := hp
    refine ⟨a :: l, l, rfl, ?_, hn, hl⟩
    match l, hw, hn, hne with
    | [], _, _, _ => trivial
    | y :: l, ⟨h1, h2⟩, hn, hne =>
      have hay : a ∉ y :: l := (List.nodup_cons.1 hn).1
      refine ⟨⟨h1, fun e => hne (by simp [e.2]), fun e => hay (by simp [e.2])⟩, wk_del h2 hay⟩
noncomputable def overB (n : Nat) (E : Nat → Nat → Prop) (a b v : Nat) : Bool := decide ((pathL n E a v)[1]? = some b)
theorem cut_conn (h : Frs E) {a b v : Nat} (he : E a b) : connB n (delE E a b) a v = (connB n E a v && !overB n E a b v) := by
  rw [Bool.eq_iff_iff]
  simp only [Bool.and_eq_true, connB_iff]
  by_cases hc : ConnI n E a v
  · have hp := pathL_is hc
    simp only [Int.toNat_natCast] at hp
    have := del_conn h he hp
    constructor
    · rintro ⟨_, _, hx⟩
      simp only [Int.toNat_natCast] at hx
      exact ⟨hc, by simpa [overB] using this.1 hx⟩
    · rintro ⟨_, ho⟩
      refine ⟨hc.1, hc.2.1, ?_⟩
      simp only [Int.toNat_natCast]
      exact this.2 (by simpa [overB] using ho)
  · constructor
    · rintro ⟨h1, h2, q, hq⟩
      exact absurd ⟨h1, h2, q, isPath_mono (fun _ _ h => h.1) hq⟩ hc
    · exact fun h => absurd h.1 hc
theorem del_none {a b : Nat} : ¬ delE E a b a b := fun h => h.2.1 ⟨rfl, rfl⟩
theorem add_comm (E : Nat → Nat → Prop) (a b : Nat) : addE E a b = addE E b a := E_ext (fun v u => by unfold addE; constructor <;> rintro (h | h | h) <;> simp [h])
end

/-- Two forests and a pair, made since the call began. -/
structure Own2 (w wr : World) (pf g pf' g' bx n : Nat) (E E' : Nat → Nat → Prop) (a b : Nat) : Prop where
  lm : LM wr pf g n E (fun _ => 0)
  lm' : LM wr pf' g' n E' (fun _ => 0)
  fr : Fr [] w wr
  new : w.heap.size ≤ pf ∧ w.heap.size ≤ g ∧ w.heap.size ≤ pf' ∧ w.heap.size ≤ g'
  apart : pf ≠ pf' ∧ pf ≠ g' ∧ g ≠ pf' ∧ g ≠ g' ∧ bx ≠ pf ∧ bx ≠ g ∧ bx ≠ pf' ∧ bx ≠ g'
  box : Blk wr bx 30 [.int .i64 a, .int .i64 b]
section
variable {w wr w' : World} {pf g pf' g' bx n : Nat} {E E' E'' : Nat → Nat → Prop} {a b : Nat} (h : Own2 w wr pf g pf' g' bx n E E' a b)
include h
theorem Own2.ask (hl : LG w' pf g n E (fun _ => 0) ((n : Int) - nc n E)) (hf : Fr [g] wr w') : Own2 w w' pf g pf' g' bx n E E' a b := by
  have h1 := h.new; have h2 := h.apart
  exact ⟨hl, LG.fr h.lm' hf (by simp; omega) (by simp; omega), h.fr.trans hf (fun q hq => .inr (by simp at hq; omega)), h.new, h.apart, hf.blk h.box (by simp; omega)⟩
theorem Own2.next' (hl : LM w' pf' g' n E'' (fun _ => 0)) (hf : Fr [pf', g'] wr w') : Own2 w w' pf g pf' g' bx n E E'' a b := by
  have h1 := h.new; have h2 := h.apart
  exact ⟨LG.fr h.lm hf (by simp; omega) (by simp; omega), hl, h.fr.trans hf (fun q hq => .inr (by simp at hq; omega)), h.new, h.apart, hf.blk h.box (by simp; omega)⟩
theorem Own2.ask' (hl : LG w' pf' g' n E' (fun _ => 0) ((n : Int) - nc n E')) (hf : Fr [g'] wr w') : Own2 w w' pf g pf' g' bx n E E' a b :=
  h.next' hl (hf.mono (fun q hq => .inl (by simp at hq; simp [hq])))
theorem Own2.drew (k : Nat) : Own2 w (wr.drewN k) pf g pf' g' bx n E E' a b :=
  h.ask (LG.fr h.lm ((Fr.refl [] wr).drewN k) (by simp) (by simp)) ((Fr.refl _ _).drewN k)
theorem Own2.below : Below w.heap.size w wr := h.fr.below (by simp)
end

theorem walk_lctCuts (W : World) (n : Int) (_wn : (Lit.int .i64 n).wf = true) (a : Option Addr) (len cap : Nat) (z : Nat → Int × Int) (hz : PairsF W a len z) (wh : Int) (wwh : (Lit.int .u8 wh).wf = true) :
    Calls Try.prog 9 #[.int .i64 n, .slice a len cap, .int .u8 wh] W fun e w' => e = .returned (.bool true) ∧ Below W.heap.size W w' := by
  have hl63 := hz.1
  have HZ := Lib.hid hz; clear hz
  by_cases hsm : 0 ≤ n ∧ n ≤ 60 ∧ len ≤ 60
  · obtain ⟨h0, h1, hlen⟩ := hsm
    obtain ⟨n, rfl⟩ : ∃ m : Nat, n = m := ⟨n.toNat, by omega⟩
    have hn3 : n ≤ 60 := by omega
    have hd0 : decide ((n : Int) < 0) = false := decide_eq_false (by omega)
    have hd1 : decide ((n : Int) > 60) = false := decide_eq_false (by omega)
    have hd2 : decide ((len : Int) > 60) = false := decide_eq_false (by omega)
    have hwh : 0 ≤ wh ∧ wh < 256 := by
      simp only [Lit.wf, Bool.and_eq_true, decide_eq_true_eq] at wwh
      rw [show IntKind.u8.min = 0 from rfl, show IntKind.u8.max = 255 from rfl] at wwh
      omega
    go_enter Try.func9, Try.ntmps9
    go_wp2_with fail
    refine (grown_w W n (by omega) a len cap (by omega) z HZ.out).mono ?_
    rintro _ w1 ⟨pf, g, v, rfl, hO, hown, hq⟩
    have hKl : (growK n z len).length ≤ 60 := Nat.le_trans (growK_len n z len) hlen
    have hKv := (growK_once n z len).2
    generalize growK n z len = K at *
    obtain ⟨a1, c1, rfl⟩ := ownsRow_slice hown
    have Hfs := Lib.hid (LG.frs hO.lm)
    have Hlt := Lib.hid (fun v u => LG.edge_lt hO.lm (v := v) (u := u))
    have HO := Lib.hid hO; clear hO
    have HQ := Lib.hid hq; clear hq
    by_cases hK0 : K.length = 0
    · have hb0 : ((K.length : Int) == 0) = true := beq_iff_eq.2 (by omega)
      go_wp2_with fail
      refine (works_w _).mono ?_
      rintro _ w6 ⟨rfl, hB⟩
      go_wp2
      go_ret
      exact ⟨rfl, HO.out.below.trans (hB.mono HO.out.fr.size)⟩
    · have hb0 : ((K.length : Int) == 0) = false := beq_eq_false_iff_ne.2 (by omega)
      obtain ⟨wn, hwn⟩ : ∃ m : Nat, wh = m := ⟨wh.toNat, by omega⟩
      subst hwn
      have hjK : wn % K.length < K.length := Nat.mod_lt _ (by omega)
      obtain ⟨a1', c1', e1, hPF⟩ := pairs_of_row hown (by omega)
      simp only [Value.slice.injEq, true_and] at e1
      obtain ⟨rfl, rfl⟩ := e1
      obtain ⟨b5, off, rfl, hb5, q50, q51⟩ := hPF.2 _ hjK
      dsimp only at q50 q51
      rw [List.getD_eq_getElem?_getD, List.getElem?_eq_getElem hjK, Option.getD_some] at q50 q51
      have hmem : K[wn % K.length]'hjK ∈ K := List.getElem_mem hjK
      obtain ⟨hx0, hx1, hxn⟩ := hKv _ hmem
      have hE : EK K (K[wn % K.length]'hjK).1 (K[wn % K.length]'hjK).2 := .inl hmem
      generalize (K[wn % K.length]'hjK).1 = x0 at *
      generalize (K[wn % K.length]'hjK).2 = x1 at *
      have HE := Lib.hid hE; clear hE hmem hKv hPF hown
      have Hxn := Lib.hid hxn; clear hxn
      have hw1 : IntKind.i64.wrap (wn : Int) = wn := IntWalk.i64_in _ (by omega)
      have hw2 : (wn : Int).tmod (K.length : Int) = ((wn % K.length : Nat) : Int) := by rw [Int.tmod_eq_emod_of_nonneg (by omega)]; simp
      have hj1 : ((wn % K.length : Nat) : Int) < (K.length : Int) := by omega
      have hj0 : (0 : Int) ≤ ((wn % K.length : Nat) : Int) := by omega
      have HK0 := Lib.hid hK0
      generalize wn % K.length = jx at *
      have hMa := LG.fr HO.out.lm ((Fr.refl [] w1).alloc (.cells #[.int .i64 x0, .int .i64 x1] 30)) (by simp) (by simp)
      have hbx : Blk (w1.alloc (.cells #[.int .i64 x0, .int .i64 x1] 30)) w1.heap.size 30 [.int .i64 x0, .int .i64 x1] := Blk.new w1 [_, _] _
      have hFa : Fr [] w1 (w1.alloc (.cells #[.int .i64 x0, .int .i64 x1] 30)) := (Fr.refl [] w1).alloc _
      have HCp := Lib.hid (copy_w hMa)
      have Hbx := Lib.hid (And.intro hbx hFa); clear hbx hMa hFa
      go_wp2_with fail
      refine HCp.out.mono ?_
      clear HCp
      rintro _ w2 ⟨pf', g', rfl, hL2, hF2, hpf', hg'⟩
      have hO2 : Own2 W w2 pf g pf' g' w1.heap.size n (EK K) (EK K) x0 x1 := by
        have h1 := LG.lts HO.out.lm
        have h2 := HO.out.pf; have h3 := HO.out.g; have h4 := HO.out.fr.size
        have hF1 := Hbx.out.2.trans' hF2
        simp only [World.size_alloc] at hpf' hg'
        exact ⟨LG.fr HO.out.lm hF1 (by simp) (by simp), hL2, HO.out.fr.trans' hF1, ⟨h2, h3, by omega, by omega⟩, by omega, hF2.blk Hbx.out.1 (by simp)⟩
      clear hL2 hF2 hpf' hg' Hbx HO q50 q51 HQ
      generalize w1.heap.size = bx at *
      have c0 := hO2.box.cell 0
      have c1' := hO2.box.cell 1
      simp only [List.getElem?_cons_zero, List.getElem?_cons_succ] at c0 c1'
      have iv0 : inV n (x0 : Int) = true := by simp [inV]; omega
      have iv1 : inV n (x1 : Int) = true := by simp [inV]; omega
      have Hcut := Lib.hid (show cutCode n (EK K) x0 x1 = 0 ∧ cutE n (EK K) x0 x1 = delE (EK K) x0 x1 by
        have h : cutCode n (EK K) x0 x1 = 0 := by unfold cutCode; rw [if_pos ⟨iv0, iv1⟩, Int.toNat_natCast, Int.toNat_natCast, if_pos HE.out]
        refine ⟨h, ?_⟩
        unfold cutE; rw [if_pos h, Int.toNat_natCast, Int.toNat_natCast])
      have Hcut2 := Lib.hid (show cutCode n (delE (EK K) x0 x1) x0 x1 = 5 ∧ cutE n (delE (EK K) x0 x1) x0 x1 = delE (EK K) x0 x1 by
        have h : cutCode n (delE (EK K) x0 x1) x0 x1 = 5 := by unfold cutCode; rw [if_pos ⟨iv0, iv1⟩, Int.toNat_natCast, Int.toNat_natCast, if_neg del_none]
        refine ⟨h, ?_⟩
        unfold cutE; rw [h]; simp)
      have hsep := del_sep Hfs.out HE.out
      clear iv0 iv1
      have hcut := cut_w hO2.lm' (x0 : Int) (x1 : Int)
      rw [Hcut.out.1, Hcut.out.2] at hcut
      have HC := Lib.hid hcut; clear hcut
      have HO2 := Lib.hid hO2; clear hO2
      have Hsep := Lib.hid hsep; clear hsep
      go_wp2_with fail
      refine HC.out.mono ?_
      rintro _ w3 ⟨rfl, hL3, hF3⟩
      have HO3 := Lib.hid (HO2.out.next' hL3 hF3)
      have Hfd := Lib.hid (LG.frs hL3)
      have Hnc := Lib.hid (nc_del (n := n) Hfs.out Hfd.out HE.out hx0 hx1)
      clear hL3 hF3 HC HO2 c0 c1' Hcut
      have hT1 := trees_w HO3.out.lm'
      have hT2 := fun k => trees_w (HO3.out.drew k).lm
      have hnle := nc_le n (EK K)
      rw [Hnc.out] at hT1
      have HT1 := Lib.hid hT1; clear hT1
      have HT2 := Lib.hid hT2; clear hT2
      have Hcc := Lib.hid (fun v : Nat => cut_conn (n := n) (v := v) Hfs.out HE.out)
      have Hre := Lib.hid (show addE (delE (EK K) x0 x1) x1 x0 = EK K by rw [add_comm, add_del Hfs.out HE.out])
      obtain ⟨ncE, hncE⟩ : ∃ m, nc n (EK K) = m := ⟨_, rfl⟩
      rw [hncE] at HT1 HT2 hnle
      have HncE := Lib.hid hncE; clear hncE
      go_wp2_with fail
      refine HT1.out.mono ?_
      rintro _ w4 ⟨rfl, k4, rfl⟩
      go_wp2_with fail
      refine (HT2.out _).mono ?_
      rintro _ w5 ⟨rfl, k5, rfl⟩
      have HO5 := Lib.hid ((HO3.out.drew k4).drew k5)
      generalize (w3.drewN k4).drewN k5 = w5 at *
      have hne0 : (((ncE + 1 : Nat) : Int) != (ncE : Int) + 1) = false := by simp
      clear HT1 HT2 HO3
      go_wp2
      go_loopw [11] (fun i wr => ∃ v : Nat, v ≤ n ∧ i = .int .i64 v ∧ Hid (Own2 W wr pf g pf' g' bx n (EK K) (delE (EK K) x0 x1) x0 x1)) (fun i _ => n - (intOf i).toNat)
      case atStart => exact ⟨0, Nat.zero_le _, rfl, HO5⟩
      case round =>
        clear HO5
        obtain ⟨v, hv, rfl, HO⟩ := hrel
        by_cases hlt : v < n
        · have c0 := HO.out.box.cell 0
          simp only [List.getElem?_cons_zero, List.getElem?_cons_succ] at c0
          have hvn : (v : Int) < n := by omega
          go_wp2_with fail
          refine (pathf_w HO.out.lm (x0 : Int) (v : Int)).mono ?_
          rintro _ w6 ⟨vp, rfl, rp, op, h6, f6⟩
          have HO6 := Lib.hid (HO.out.ask h6 f6)
          have R2 := Lib.hid (show RowN w6 vp (pathL n (EK K) x0 v) from rp)
          have hcc := Hcc.out v
          obtain ⟨ov, hov⟩ : ∃ ov, overB n (EK K) x0 x1 v = ov := ⟨_, rfl⟩
          obtain ⟨cc, hcd⟩ : ∃ cc, connB n (EK K) x0 v = cc := ⟨_, rfl⟩
          rw [hov, hcd] at hcc
          have hov2 : decide ((pathL n (EK K) x0 v)[1]? = some x1) = ov := hov
          have hpl : (pathL n (EK K) x0 v).length ≤ 60 := Nat.le_trans (nodup_le (pathL_nd _ _) (pathL_lt Hlt.out)) hn3
          generalize pathL n (EK K) x0 v = p at *
          obtain ⟨ap, cp, rfl⟩ := R2.out.slice
          have Hcf := Lib.hid (fun (w' : World) (h : Own2 W w' pf g pf' g' bx n (EK K) (delE (EK K) x0 x1) x0 x1) => (show Calls Try.prog 15 #[.pointer (some ⟨pf, 0, none⟩), .int .i64 x0, .int .i64 v] w' fun e w'' => e = .returned (.bool cc) ∧ Own2 W w'' pf g pf' g' bx n (EK K) (delE (EK K) x0 x1) x0 x1 by
            have := connected_d h.lm (x0 : Int) (v : Int)
            rw [hcd] at this
            refine this.mono ?_
            rintro _ w'' ⟨rfl, h1, h2⟩
            exact ⟨rfl, h.ask h1 h2⟩))
          have Hcg := Lib.hid (fun (w' : World) (h : Own2 W w' pf g pf' g' bx n (EK K) (delE (EK K) x0 x1) x0 x1) => (show Calls Try.prog 15 #[.pointer (some ⟨pf', 0, none⟩), .int .i64 x0, .int .i64 v] w' fun e w'' => e = .returned (.bool (cc && !ov)) ∧ Own2 W w'' pf g pf' g' bx n (EK K) (delE (EK K) x0 x1) x0 x1 by
            have := connected_d h.lm' (x0 : Int) (v : Int)
            rw [hcc] at this
            refine this.mono ?_
            rintro _ w'' ⟨rfl, h1, h2⟩
            exact ⟨rfl, h.ask' h1 h2⟩))
          clear hcc hov hcd rp h6 f6 op
          have c6 := HO6.out.box.cell 0
          have d6 := HO6.out.box.cell 1
          simp only [List.getElem?_cons_zero, List.getElem?_cons_succ] at c6 d6
          have hO6 : ∀ k, Own2 W (w6.drewN k).drew pf g pf' g' bx n (EK K) (delE (EK K) x0 x1) x0 x1 := fun k => (HO6.out.drew k).drew 1
          by_cases h1p : 1 < p.length
          · obtain ⟨b2, c2', e2, _, q2⟩ := R2.out.at h1p
            simp only [Value.slice.injEq, true_and] at e2
            obtain ⟨rfl, rfl⟩ := e2
            rw [List.getElem?_eq_getElem h1p] at hov2
            have hov3 : (((p[1]'h1p : Nat) : Int) == (x1 : Int)) = ov := by
              rw [← hov2, Bool.eq_iff_iff]; simp only [beq_iff_eq, decide_eq_true_eq, Option.some.injEq]; omega
            clear hov2
            generalize p[1]'h1p = p1 at *
            have hd1 : decide ((p.length : Int) > 1) = true := decide_eq_true (by omega)
            have hi1 : (1 : Int) < p.length := by omega
            go_wp2
            go_quiet (fail)
            clear q2 hov3
            go_wp2
            refine region_class (fun w' => Own2 W w' pf g pf' g' bx n (EK K) (delE (EK K) x0 x1) x0 x1) (by kernel_rfl) (by kernel_rfl) (hO6 _) ?_
            iterate 2 (refine cWalk_pure (fun KK hK => ?_); go_simp; refine hK _ ?_; clear hK KK)
            refine cWalk_val rfl (.int .i64 x0) (fun w' hw' => ?_) ?_
            · have c0 := hw'.box.cell 0
              simp only [List.getElem?_cons_zero] at c0
              go_simp
            iterate 1 (refine cWalk_pure (fun KK hK => ?_); go_simp; refine hK _ ?_; clear hK KK)
            refine cWalk_val rfl (.bool (cc && !ov)) (fun w' hw' => ?_) ?_
            · go_simp
              exact Hcg.out _ hw'
            iterate 2 (refine cWalk_pure (fun KK hK => ?_); go_simp; refine hK _ ?_; clear hK KK)
            refine cWalk_val rfl (.int .i64 x0) (fun w' hw' => ?_) ?_
            · have c0 := hw'.box.cell 0
              simp only [List.getElem?_cons_zero] at c0
              go_simp
            iterate 1 (refine cWalk_pure (fun KK hK => ?_); go_simp; refine hK _ ?_; clear hK KK)
            refine cWalk_val rfl (.bool cc) (fun w' hw' => ?_) ?_
            · go_simp
              exact Hcf.out _ hw'
            clear Hcf Hcg hO6 c6 d6 HO6 HO R2
            cases cc <;> cases ov
            all_goals iterate 5 (refine cWalk_pure (fun KK hK => ?_); go_simp; refine hK _ ?_; clear hK KK)
            all_goals refine cWalk_nil ?_
            all_goals intro w7 h7
            all_goals go_wp2
            all_goals go_roundw
            all_goals first
              | (refine ⟨v + 1, by omega, by go_num, Lib.hid h7⟩)
              | (simp [intOf]; omega)
          · have hov3 : ov = false := by
              rw [← hov2, List.getElem?_eq_none (by omega)]; rfl
            clear hov2
            subst hov3
            have hd1 : decide ((p.length : Int) > 1) = false := decide_eq_false (by omega)
            simp only [Bool.not_false, Bool.and_true] at Hcg
            go_wp2
            go_quiet (fail)
            go_wp2
            refine region_class (fun w' => Own2 W w' pf g pf' g' bx n (EK K) (delE (EK K) x0 x1) x0 x1) (by kernel_rfl) (by kernel_rfl) (hO6 _) ?_
            iterate 2 (refine cWalk_pure (fun KK hK => ?_); go_simp; refine hK _ ?_; clear hK KK)
            refine cWalk_val rfl (.int .i64 x0) (fun w' hw' => ?_) ?_
            · have c0 := hw'.box.cell 0
              simp only [List.getElem?_cons_zero] at c0
              go_simp
            iterate 1 (refine cWalk_pure (fun KK hK => ?_); go_simp; refine hK _ ?_; clear hK KK)
            refine cWalk_val rfl (.bool cc) (fun w' hw' => ?_) ?_
            · go_simp
              exact Hcg.out _ hw'
            iterate 2 (refine cWalk_pure (fun KK hK => ?_); go_simp; refine hK _ ?_; clear hK KK)
            refine cWalk_val rfl (.int .i64 x0) (fun w' hw' => ?_) ?_
            · have c0 := hw'.box.cell 0
              simp only [List.getElem?_cons_zero] at c0
              go_simp
            iterate 1 (refine cWalk_pure (fun KK hK => ?_); go_simp; refine hK _ ?_; clear hK KK)
            refine cWalk_val rfl (.bool cc) (fun w' hw' => ?_) ?_
            · go_simp
              exact Hcf.out _ hw'
            clear Hcf Hcg hO6 c6 d6 HO6 HO R2
            cases cc
            all_goals iterate 5 (refine cWalk_pure (fun KK hK => ?_); go_simp; refine hK _ ?_; clear hK KK)
            all_goals refine cWalk_nil ?_
            all_goals intro w7 h7
            all_goals go_wp2
            all_goals go_roundw
            all_goals first
              | (refine ⟨v + 1, by omega, by go_num, Lib.hid h7⟩)
              | (simp [intOf]; omega)
        · have hve : v = n := by omega
          subst hve
          have hvn : ¬ ((v : Int) < v) := by omega
          clear hlt Hcc Hnc
          have c0 := HO.out.box.cell 0
          have d0 := HO.out.box.cell 1
          simp only [List.getElem?_cons_zero, List.getElem?_cons_succ] at c0 d0
          have hcut := cut_w HO.out.lm' (x0 : Int) (x1 : Int)
          rw [Hcut2.out.1, Hcut2.out.2] at hcut
          have HC := Lib.hid hcut; clear hcut
          go_wp2_with fail
          refine HC.out.mono ?_
          rintro _ w6 ⟨rfl, hL6, hF6⟩
          have HO6 := Lib.hid (HO.out.next' hL6 hF6)
          clear hL6 hF6 HC HO c0 d0
          have c0 := HO6.out.box.cell 0
          have d0 := HO6.out.box.cell 1
          simp only [List.getElem?_cons_zero, List.getElem?_cons_succ] at c0 d0
          have hlk : linkCode v (delE (EK K) x0 x1) x1 x0 = 0 := by
            have iv0 : inV v (x0 : Int) = true := by simp [inV]; omega
            have iv1 : inV v (x1 : Int) = true := by simp [inV]; omega
            unfold linkCode
            rw [if_pos ⟨iv1, iv0⟩, Int.toNat_natCast, Int.toNat_natCast, if_neg (fun e => Hxn.out (by omega)), if_neg]
            exact fun hc => Hsep.out (Hfd.out.csymm hc)
          have hle : linkE v (delE (EK K) x0 x1) x1 x0 = EK K := by
            unfold linkE; rw [if_pos hlk, Int.toNat_natCast, Int.toNat_natCast, Hre.out]
          have hlw := link_w HO6.out.lm' (x1 : Int) (x0 : Int)
          rw [hlk, hle] at hlw
          have HC := Lib.hid hlw; clear hlw hlk hle
          go_wp2_with fail
          refine HC.out.mono ?_
          rintro _ w7 ⟨rfl, hL7, hF7⟩
          have HO7 := Lib.hid (HO6.out.next' hL7 hF7)
          clear hL7 hF7 HC HO6 c0 d0
          clear Hcut2 Hsep Hre HncE Hfd
          have Hpl := Lib.hid (fun u : Nat => show (pathL v (EK K) x0 u).length ≤ 65536 from Nat.le_trans (Nat.le_trans (nodup_le (pathL_nd _ _) (pathL_lt Hlt.out)) hn3) (by omega))
          go_wp2
          go_loopw [14] (fun i wr => ∃ u : Nat, u ≤ v ∧ i = .int .i64 u ∧ Hid (Own2 W wr pf g pf' g' bx v (EK K) (EK K) x0 x1)) (fun i _ => v - (intOf i).toNat)
          case atStart => exact ⟨0, Nat.zero_le _, rfl, HO7⟩
          case round =>
            clear HO7
            obtain ⟨u, hu, rfl, HO⟩ := hrel
            by_cases hlt : u < v
            · have c0 := HO.out.box.cell 0
              simp only [List.getElem?_cons_zero, List.getElem?_cons_succ] at c0
              have hvu : (u : Int) < v := by omega
              have hO1 : Own2 W wr.drew pf g pf' g' bx v (EK K) (EK K) x0 x1 := HO.out.drew 1
              have HpA := Lib.hid (show Calls Try.prog 22 #[.pointer (some ⟨pf', 0, none⟩), .int .i64 x0, .int .i64 u] wr.drew (fun e wA => ∃ vA, e = .returned vA ∧ Own2 W wA pf g pf' g' bx v (EK K) (EK K) x0 x1 ∧
                  Calls Try.prog 22 #[.pointer (some ⟨pf, 0, none⟩), .int .i64 x0, .int .i64 u] wA (fun e wB => ∃ vB, e = .returned vB ∧ Own2 W wB pf g pf' g' bx v (EK K) (EK K) x0 x1 ∧
                    Calls Try.prog 23 #[vA, vB] wB (fun e wC => e = .returned (.bool true) ∧ Own2 W wC pf g pf' g' bx v (EK K) (EK K) x0 x1))) by
                refine (pathf_w hO1.lm' (x0 : Int) (u : Int)).mono ?_
                rintro e wA ⟨vA, rfl, rA, oA, lA, fA⟩
                have hA := hO1.ask' lA fA
                refine ⟨vA, rfl, hA, ?_⟩
                refine (pathf_w hA.lm (x0 : Int) (u : Int)).mono ?_
                rintro e wB ⟨vB, rfl, rB, oB, lB, fB⟩
                have hB := hA.ask lB fB
                refine ⟨vB, rfl, hB, ?_⟩
                have rA2 : RowN wB vA (pathL v (EK K) x0 u) := RowN.fr rA fB (fun q hq => by
                  have h1 := oA q hq
                  have h2 := LG.lts hO1.lm
                  simp; omega)
                refine (same_w rA2 rB (Hpl.out u) (Hpl.out u)).mono ?_
                rintro e wC ⟨rfl, kC, rfl⟩
                exact ⟨by rw [decide_eq_true rfl], hB.drew kC⟩)
              go_wp2
              go_region_held3 (fun w' => w'.cell? ⟨bx, 0, none⟩ = some (.int .i64 x0))
                (first
                  | go_keep
                  | (exact hC.box.cell 0)
                  | (exact hB.box.cell 0)
                  | (exact hA.box.cell 0))
                (first
                  | (go_at_call 22; with_reducible refine HpA.out.mono ?_; rintro e wA ⟨vA, rfl, hA, hcA⟩)
                  | (go_at_call 22; with_reducible refine hcA.mono ?_; rintro e wB ⟨vB, rfl, hB, hcB⟩)
                  | (go_at_call 23; with_reducible refine hcB.mono ?_; rintro e wC ⟨rfl, hC⟩))
              go_wp2
              go_roundw
              case rel => exact ⟨u + 1, by omega, by go_num, Lib.hid hC⟩
              case measure => simp [intOf]; omega
            · have hve : u = v := by omega
              subst hve
              have hvn : ¬ ((u : Int) < u) := by omega
              go_wp2_with fail
              refine (works_w _).mono ?_
              rintro _ w6 ⟨rfl, hB⟩
              go_wp2
              go_ret
              exact ⟨rfl, HO.out.below.trans (hB.mono HO.out.fr.size)⟩
  · by_cases h1 : n < 0
    · have hd0 : decide (n < 0) = true := decide_eq_true h1
      go_enter Try.func9, Try.ntmps9
      go_wp2_with fail
      refine (works_w _).mono ?_
      rintro _ w6 ⟨rfl, hB⟩
      go_wp2
      go_ret
      exact ⟨rfl, hB⟩
    · have hd0 : decide (n < 0) = false := decide_eq_false h1
      by_cases h2 : n > 60
      · have hd1 : decide (n > 60) = true := decide_eq_true h2
        go_enter Try.func9, Try.ntmps9
        go_wp2_with fail
        refine (works_w _).mono ?_
        rintro _ w6 ⟨rfl, hB⟩
        go_wp2
        go_ret
        exact ⟨rfl, hB⟩
      · have hd1 : decide (n > 60) = false := decide_eq_false h2
        have hd2 : decide ((len : Int) > 60) = true := decide_eq_true (by omega)
        go_enter Try.func9, Try.ntmps9
        go_wp2_with fail
        refine (works_w _).mono ?_
        rintro _ w6 ⟨rfl, hB⟩
        go_wp2
        go_ret
        exact ⟨rfl, hB⟩

end Go.Proofs.Ytoppjjgecgbbkaa

/- The document's forest: Path, Connected, Dist, Size, Trees. -/
namespace Go.Proofs.Ytoppjjgecgbbkaa
open Go.RowKit Classical
set_option maxRecDepth 10000
set_option maxHeartbeats 800000

theorem EL.elt {n : Nat} {L : List (Nat × Nat)} (h : EL n L) : ∀ v u, EK L v u → v < n ∧ u < n := by
  rintro v u (e | e)
  · exact ⟨(h.lt _ e).1, (h.lt _ e).2.1⟩
  · exact ⟨(h.lt _ e).2.1, (h.lt _ e).1⟩

theorem path_end {E : Nat → Nat → Prop} {a b : Nat} {p : List Nat} (hp : IsPath E a b p) {i : Nat} (hi : i < p.length) : p[i] = b ↔ i + 1 = p.length := by
  have hl := hp.last
  rw [List.getLast?_eq_getElem?] at hl
  have hpos : 0 < p.length := by omega
  have hl' : p[p.length - 1]'(by omega) = b := by
    rw [List.getElem?_eq_getElem (by omega)] at hl; exact Option.some.inj hl
  constructor
  · intro e
    have h1 : p[i] = p[p.length - 1]'(by omega) := by rw [e, hl']
    rcases Nat.lt_or_ge i (p.length - 1) with hlt | hge
    · exact absurd h1 (List.pairwise_iff_getElem.1 hp.nd i (p.length - 1) hi (by omega) hlt)
    · omega
  · intro e
    have : i = p.length - 1 := by omega
    subst this; exact hl'

theorem pathL_len {n : Nat} {E : Nat → Nat → Prop} (hlt : ∀ v u, E v u → v < n ∧ u < n) (a b : Int) : (pathL n E a b).length ≤ n := nodup_le (pathL_nd _ _) (pathL_lt hlt)

theorem path_r {w : World} {pr : Nat} {vK vL : Value} {n : Nat} {key : Nat → Int} {L : List (Nat × Nat)} (h : RefAt w pr vK vL n key L) (hE : EL n L) (a b : Int) :
    Calls Try.prog 44 #[.pointer (some ⟨pr, 0, none⟩), .int .i64 a, .int .i64 b] w fun e w' => ∃ v, e = .returned v ∧ RowN w' v (pathL n (EK L) a b) ∧ (∀ q, v.ownBlock = some q → w.heap.size ≤ q) ∧ Fr [] w w' := by
  have hle := hE.le
  have HA := Lib.hid (has_r h a)
  have HB := Lib.hid (has_r h b)
  cases ha : inV n a with
  | false =>
    rw [ha] at HA
    have e : pathL n (EK L) a b = [] := by unfold pathL; rw [if_neg (fun h => by have h1 := h.1; rw [ha] at h1; cases h1)]
    rw [e]; clear e
    go_enter Try.func44, Try.ntmps44
    go_wp2_with (go_at_call 58; refine HA.out.mono ?_; rintro e w ⟨rfl, rfl⟩)
    go_ret
    exact ⟨_, rfl, World.ownsRow_nil _ _ _ _, fun q e => (by cases e), Fr.refl _ _⟩
  | true =>
    rw [ha] at HA
    cases hb : inV n b with
    | false =>
      rw [hb] at HB
      have e : pathL n (EK L) a b = [] := by unfold pathL; rw [if_neg (fun h => by have h1 := h.2.1; rw [hb] at h1; cases h1)]
      rw [e]; clear e
      go_enter Try.func44, Try.ntmps44
      go_wp2_with fail
      refine HA.out.mono ?_
      rintro _ w ⟨rfl, rfl⟩
      go_wp2_with fail
      refine HB.out.mono ?_
      rintro _ w ⟨rfl, rfl⟩
      go_wp2_with fail
      go_ret
      exact ⟨_, rfl, World.ownsRow_nil _ _ _ _, fun q e => (by cases e), Fr.refl _ _⟩
    | true =>
      rw [hb] at HB
      obtain ⟨x, rfl, hx⟩ := inV_nat ha
      obtain ⟨y, rfl, hy⟩ := inV_nat hb
      have hpl : ∀ p, IsPath (EK L) x y p → pathL n (EK L) x y = p := fun p hp => by
        unfold pathL; rw [if_pos ⟨ha, hb, by simpa using ⟨p, hp⟩⟩]; simpa using thePath_eq hE.frs hp
      have hpn : ¬ Conn (EK L) x y → pathL n (EK L) x y = [] := fun hn => by
        unfold pathL; rw [if_neg (fun h => hn (by simpa using h.2.2))]
      have Hpl := Lib.hid hpl; have Hpn := Lib.hid hpn; clear hpl hpn ha hb
      have HTo := Lib.hid (towards_r h hE y hy)
      have HEl := Lib.hid hE; clear hE h
      go_enter Try.func44, Try.ntmps44
      go_wp2_with fail
      refine HA.out.mono ?_
      rintro _ w ⟨rfl, rfl⟩
      go_wp2_with fail
      refine HB.out.mono ?_
      rintro _ w ⟨rfl, rfl⟩
      go_wp2_with fail
      clear HA HB
      refine HTo.out.mono ?_
      rintro _ w1 ⟨nb, nx, rfl, hT, hB⟩
      obtain ⟨e1, e2⟩ := hT.at hx
      have HT := Lib.hid hT; have HB := Lib.hid hB; clear hT hB HTo
      have hxn : (x : Int) < n := by omega
      by_cases hv : nx x < 0
      · have hd : decide (nx x < 0) = true := decide_eq_true hv
        have hnc : ¬ Conn (EK L) x y := fun hc => by have := (HB.out.conn HEl.out.frs).2 hc; omega
        have Hnc := Lib.hid hnc; clear hnc
        go_wp2
        go_ret
        refine ⟨_, rfl, ?_, fun q e => (by cases e), HT.out.fr⟩
        rw [Hpn.out Hnc.out]; exact World.ownsRow_nil _ _ _ _
      · have hd : decide (nx x < 0) = false := decide_eq_false hv
        have hc := (HB.out.conn HEl.out.frs).1 (Int.not_lt.1 hv)
        obtain ⟨_, p, hp, hpn⟩ := HB.out.path x (Int.not_lt.1 hv)
        have hpe := Hpl.out p hp
        have hpl : p.length ≤ n := by have := pathL_len HEl.out.elt (x : Int) (y : Int); rw [hpe] at this; exact this
        have hplt : ∀ z ∈ p, z < n := by have := pathL_lt (a := (x : Int)) (b := (y : Int)) HEl.out.elt; rw [hpe] at this; exact this
        have hend := fun i (hi : i < p.length) => path_end hp hi
        obtain ⟨l, hl0⟩ := hp.first
        have hp0 : 0 < p.length := by rw [hl0]; simp
        have hpx : p[0] = x := by subst hl0; rfl
        have Hpe := Lib.hid hpe; clear hpe
        have HP := Lib.hid (And.intro hpx (And.intro hplt (And.intro hpn (And.intro hend hl0)))); clear hpx hplt hpn hend hl0 Hpl Hpn hc hp
        go_wp2
        go_loopg [1, 8] (p.length) (fun m sa so wr => ∃ i : Nat, ∃ hi : i < p.length, sa = .int .i64 (p[i] : Nat) ∧ m = p.length - i ∧ Hid (RowN wr so (p.take (i + 1))) ∧ Hid (∀ q, so.ownBlock = some q → w.heap.size ≤ q ∧ q ≠ nb) ∧ Hid (Tr w wr pr vK vL n key L nb nx))
        case atStart =>
          have hs := HT.out.fr.size
          have hnb := (HT.out.row.lt nb rfl).2
          refine ⟨0, hp0, by rw [HP.out.1], by omega, Lib.hid ?_, Lib.hid (fun q hq => ?_), Lib.hid (HT.out.step (S := []) ((Fr.refl _ _).alloc _) (by simp) (by simp))⟩
          · have : p.take (0 + 1) = [x] := by rw [HP.out.2.2.2.2]; simp
            rw [this]
            refine ⟨by simp [encR], .inr ⟨w1.heap.size, 1, #[.int .i64 x], rfl, Nat.zero_le _, World.alloc_heap_new _ _, Nat.le_refl _, by unfold maxLen; omega, by simp, by simp [encR, encI]⟩⟩
          · simp [Value.ownBlock] at hq; omega
        case round =>
          clear HT
          obtain ⟨i, hi, rfl, hm, HR, HQ, HT⟩ := hrel
          obtain ⟨ao, co, rfl⟩ := HR.out.slice
          have hlt2 : (p.take (i + 1)).length = i + 1 := by simp; omega
          simp only [hlt2] at HQ ⊢
          by_cases hl : i + 1 = p.length
          · have hpi : (p[i] : Nat) = y := (HP.out.2.2.2.1 i hi).2 hl
            have hne : (((p[i] : Nat) : Int) != (y : Int)) = false := by simp [hpi]
            go_wp2
            go_ret
            refine ⟨_, rfl, ?_, fun q hq => (HQ.out q hq).1, HT.out.fr⟩
            have := HR.out
            rw [List.take_of_length_le (by omega)] at this
            rw [Hpe.out]
            simp only [hl] at this ⊢
            exact this
          · have hpi : (p[i] : Nat) ≠ y := fun e => hl ((HP.out.2.2.2.1 i hi).1 e)
            have hne : (((p[i] : Nat) : Int) != (y : Int)) = true := by simp; omega
            have hi2 : i + 1 < p.length := by omega
            obtain ⟨e1, e2⟩ := HT.out.at (HP.out.2.1 _ (List.getElem_mem hi))
            rw [NextOn.get HP.out.2.2.1 i hi2] at e1
            have hpin : ((p[i] : Nat) : Int) < n := by have := HP.out.2.1 _ (List.getElem_mem hi); omega
            have htk : p.take (i + 1 + 1) = p.take (i + 1) ++ [p[i + 1]] := by rw [List.take_add_one (i := i + 1), List.getElem?_eq_getElem hi2]; rfl
            have Htk := Lib.hid htk; clear htk
            generalize hpi2 : p[i] = pi at *
            generalize hpj2 : p[i + 1] = pj at *
            have Hpp := Lib.hid (And.intro hpi2 hpj2); clear hpi2 hpj2
            have hrow : wr.ownsRow 0 3 1 (.slice ao (i + 1) co) (i + 1) (encR (p.take (i + 1))) := by have := HR.out; unfold RowN at this; rw [hlt2] at this; exact this
            have HR1 := Lib.hid hrow; clear hrow hlt2 HR
            go_wp2_with (at_builtin; refine wpList_app1 rfl _ _ 41 rfl 3 (.int .i64 0) 8 Try.underlying41 Try.info3 rfl (.slice ao (i + 1) co) (i + 1) _ rfl (HR1.out.alloc _) wr.heap.size (.int .i64 pj) rfl (cell_new1 _ _ _ _ rfl) rfl (by omega) (by decide) ?_; intro g' cap' w3 hown3 hgrow3 hg3; have hF3 : Fr (Value.slice ao (i + 1) co).ownBlock.toList wr w3 := ((Fr.refl _ _).alloc _).grown hgrow3 (fun q e => .inl (by simp [e])); have HT3 := Lib.hid (HT.out.step hF3 (fun hm => (HQ.out nb (by simpa using hm)).2 rfl) (fun q hq => (HQ.out q (by simpa using hq)).1)))
            go_roundg (p.length - (i + 1))
            case measure => omega
            case rel =>
              refine ⟨i + 1, hi2, by rw [Hpp.out.2], rfl, Lib.hid ?_, Lib.hid (fun q hq => ?_), HT3⟩
              · unfold RowN
                rw [Htk.out]
                have : (p.take (i + 1) ++ [pj]).length = i + 1 + 1 := by simp; omega
                rw [this]
                have e4 : encR (p.take (i + 1) ++ [pj]) = encR (p.take (i + 1)) ++ [.int .i64 pj] := by simp [encR, encI]
                rw [e4]; exact hown3
              · simp only [Value.ownBlock, Option.some.injEq] at hq
                subst hq
                have hs := HT.out.fr.size
                have hnb := (HT.out.row.lt nb rfl).2
                rcases hg3 with e | e
                · exact HQ.out _ e
                · simp only [World.size_alloc] at e; omega

theorem connected_r {w : World} {pr : Nat} {vK vL : Value} {n : Nat} {key : Nat → Int} {L : List (Nat × Nat)} (h : RefAt w pr vK vL n key L) (hE : EL n L) (a b : Int) :
    Calls Try.prog 43 #[.pointer (some ⟨pr, 0, none⟩), .int .i64 a, .int .i64 b] w fun e w' => e = .returned (.bool (connB n (EK L) a b)) ∧ Fr [] w w' := by
  have hb : decide (((pathL n (EK L) a b).length : Int) > 0) = connB n (EK L) a b := by
    unfold connB pathL
    by_cases hc : ConnI n (EK L) a b
    · rw [if_pos hc]
      have := (thePath_is hc.2.2).ne
      have : 0 < (thePath (EK L) a.toNat b.toNat).length := List.length_pos_iff.2 this
      rw [decide_eq_true hc]; exact decide_eq_true (by omega)
    · rw [if_neg hc, decide_eq_false hc]; rfl
  have HP := Lib.hid (path_r h hE a b); clear h hE
  generalize connB n (EK L) a b = r at *
  generalize pathL n (EK L) a b = p at *
  go_enter Try.func43, Try.ntmps43
  go_wp2_with fail
  refine HP.out.mono ?_
  rintro _ w1 ⟨v, rfl, hR, _, hF⟩
  obtain ⟨a1, c1, rfl⟩ := hR.slice
  go_wp2
  go_ret
  exact ⟨by rw [← hb]; simp, hF⟩

theorem dist_r {w : World} {pr : Nat} {vK vL : Value} {n : Nat} {key : Nat → Int} {L : List (Nat × Nat)} (h : RefAt w pr vK vL n key L) (hE : EL n L) (a b : Int) :
    Calls Try.prog 45 #[.pointer (some ⟨pr, 0, none⟩), .int .i64 a, .int .i64 b] w fun e w' => e = .returned (.int .i64 (distI n (EK L) a b)) ∧ Fr [] w w' := by
  have hb : ((pathL n (EK L) a b).length : Int) - 1 = distI n (EK L) a b := by
    unfold distI pathL
    by_cases hc : ConnI n (EK L) a b
    · rw [if_pos hc, if_pos hc]
    · rw [if_neg hc, if_neg hc]; rfl
  have hl := pathL_len hE.elt a b
  have hle := hE.le
  have HP := Lib.hid (path_r h hE a b); clear h hE
  generalize distI n (EK L) a b = r at *
  generalize pathL n (EK L) a b = p at *
  subst hb
  go_enter Try.func45, Try.ntmps45
  go_wp2_with fail
  refine HP.out.mono ?_
  rintro _ w1 ⟨v, rfl, hR, _, hF⟩
  obtain ⟨a1, c1, rfl⟩ := hR.slice
  go_wp2
  go_ret
  exact ⟨rfl, hF⟩

noncomputable def vis (nx : Nat → Int) (i : Nat) : Nat := ((List.range i).filter fun x => decide (0 ≤ nx x)).length
theorem vis_succ (nx : Nat → Int) (i : Nat) : vis nx (i + 1) = vis nx i + if 0 ≤ nx i then 1 else 0 := by
  unfold vis
  rw [List.range_succ, List.filter_append, List.length_append]
  by_cases h : 0 ≤ nx i
  · simp [h]
  · simp [h]
theorem vis_le (nx : Nat → Int) (i : Nat) : vis nx i ≤ i := by unfold vis; exact Nat.le_trans (List.length_filter_le _ _) (by simp)

theorem size_r {w : World} {pr : Nat} {vK vL : Value} {n : Nat} {key : Nat → Int} {L : List (Nat × Nat)} (h : RefAt w pr vK vL n key L) (hE : EL n L) (a : Int) :
    Calls Try.prog 46 #[.pointer (some ⟨pr, 0, none⟩), .int .i64 a] w fun e w' => e = .returned (.int .i64 (sizeI n (EK L) a)) ∧ Fr [] w w' := by
  have hle := hE.le
  have HA := Lib.hid (has_r h a)
  cases ha : inV n a with
  | false =>
    rw [ha] at HA
    have e : sizeI n (EK L) a = 0 := by simp [sizeI, ha]
    rw [e]; clear e
    go_enter Try.func46, Try.ntmps46
    go_wp2_with (go_at_call 58; refine HA.out.mono ?_; rintro e w ⟨rfl, rfl⟩)
    go_ret
    exact ⟨rfl, Fr.refl _ _⟩
  | true =>
    rw [ha] at HA
    obtain ⟨x, rfl, hx⟩ := inV_nat ha
    have HTo := Lib.hid (towards_r h hE x hx)
    have hsz : ∀ nx, Bfs n (EK L) x nx [] (fun _ => True) → sizeI n (EK L) (x : Int) = vis nx n := by
      intro nx hB
      unfold sizeI; rw [if_pos ha, Int.toNat_natCast]
      unfold csize vis
      congr 2
      refine List.filter_congr (fun u _ => ?_)
      rw [decide_eq_decide]
      exact ⟨fun hc => (hB.conn hE.frs).2 (hE.frs.csymm hc), fun hc => hE.frs.csymm ((hB.conn hE.frs).1 hc)⟩
    have Hsz := Lib.hid hsz; clear hsz
    generalize sizeI n (EK L) (x : Int) = sz at *
    have HEl := Lib.hid hE; clear hE h ha
    go_enter Try.func46, Try.ntmps46
    go_wp2_with (go_at_call 58; refine HA.out.mono ?_; rintro e w ⟨rfl, rfl⟩)
    clear HA
    refine HTo.out.mono ?_
    rintro _ w1 ⟨nb, nx, rfl, hT, hB⟩
    have hs2 := Hsz.out nx hB
    have HT := Lib.hid hT; clear hT hB HTo Hsz
    subst hs2
    go_wp2
    go_loopw [5, 7] (fun sn si wr => wr = w1 ∧ ∃ i : Nat, i ≤ n ∧ si = .int .i64 i ∧ sn = .int .i64 (vis nx i)) (fun _ si _ => n - (intOf si).toNat)
    case atStart => exact ⟨rfl, 0, Nat.zero_le _, rfl, rfl⟩
    case round =>
      obtain ⟨rfl, i, hi, rfl, rfl⟩ := hrel
      have hvl := vis_le nx i
      by_cases hlt : i < n
      · obtain ⟨e1, e2⟩ := HT.out.at hlt
        have hin : (i : Int) < n := by omega
        have hsucc := vis_succ nx i
        by_cases hv : 0 ≤ nx i
        · have hd : decide (nx i ≥ 0) = true := decide_eq_true hv
          rw [if_pos hv] at hsucc
          have Hs := Lib.hid hsucc; clear hsucc
          go_wp2
          go_roundw
          case rel => exact ⟨by trivial, i + 1, by omega, by go_num, by rw [Hs.out]; go_num⟩
          case measure => simp [intOf]; omega
        · have hd : decide (nx i ≥ 0) = false := decide_eq_false hv
          rw [if_neg hv] at hsucc
          have Hs := Lib.hid hsucc; clear hsucc
          go_wp2
          go_roundw
          case rel => exact ⟨by trivial, i + 1, by omega, by go_num, by rw [Hs.out]; rfl⟩
          case measure => simp [intOf]; omega
      · obtain rfl : i = n := by omega
        have hin : ¬ ((i : Int) < i) := by omega
        go_wp2
        go_ret
        exact ⟨rfl, HT.out.fr⟩

theorem trees_r {w : World} {pr : Nat} {vK vL : Value} {n : Nat} {key : Nat → Int} {L : List (Nat × Nat)} (h : RefAt w pr vK vL n key L) (hE : EL n L) :
    Calls Try.prog 47 #[.pointer (some ⟨pr, 0, none⟩)] w fun e w' => e = .returned (.int .i64 (nc n (EK L) : Nat)) ∧ ∃ k, w' = w.drewN k := by
  obtain ⟨aK, cK, rfl⟩ := h.slK
  obtain ⟨aL, cL, rfl⟩ := h.slL
  have hV := Lib.hid (valid_r h)
  have hle := hE.le
  have ht := hE.trees
  have d1 := h.hd.cell 1
  have d2 := h.hd.cell 2
  simp only [List.getElem?_cons_zero, List.getElem?_cons_succ] at d1 d2
  generalize nc n (EK L) = t at *
  clear h hE
  go_enter Try.func47, Try.ntmps47
  go_wp2_with fail
  refine hV.out.mono ?_
  rintro _ w ⟨rfl, rfl⟩
  go_wp2
  go_quiet (fail)
  go_wp2
  go_ret
  refine ⟨ret_int ?_, _, rfl⟩
  omega
end Go.Proofs.Ytoppjjgecgbbkaa

namespace Go.Proofs.Ytoppjjgecgbbkaa
open Go.RowKit Classical
set_option maxRecDepth 10000
set_option maxHeartbeats 800000

theorem first_unique {key : Nat → Int} {p : List Nat} {m m' : Nat} (h : FirstOf key p m) (h' : FirstOf key p m') : m = m' := by
  apply Classical.byContradiction
  intro hne
  have h1 := h.2 m' h'.1 (fun e => hne e.symm)
  have h2 := h'.2 m h.1 hne
  omega
noncomputable def minI (n : Nat) (E : Nat → Nat → Prop) (key : Nat → Int) (a b : Int) : Nat := if h : ∃ m, FirstOf key (pathL n E a b) m then Classical.choose h else 0
theorem minI_eq {n : Nat} {E : Nat → Nat → Prop} {key : Nat → Int} {a b : Int} {m : Nat} (h : FirstOf key (pathL n E a b) m) : minI n E key a b = m := by
  have hx : ∃ m, FirstOf key (pathL n E a b) m := ⟨m, h⟩
  unfold minI; rw [dif_pos hx]; exact first_unique (Classical.choose_spec hx) h
theorem minI_nil {n : Nat} {E : Nat → Nat → Prop} {key : Nat → Int} {a b : Int} (h : pathL n E a b = []) : minI n E key a b = 0 := by
  unfold minI; rw [dif_neg]; rintro ⟨m, hm, _⟩; rw [h] at hm; cases hm
theorem connB_path {n : Nat} {E : Nat → Nat → Prop} {a b : Int} : connB n E a b = decide (0 < (pathL n E a b).length) := by
  unfold connB pathL
  by_cases hc : ConnI n E a b
  · rw [if_pos hc, decide_eq_true hc]; exact (decide_eq_true (List.length_pos_iff.2 (thePath_is hc.2.2).ne)).symm
  · rw [if_neg hc, decide_eq_false hc]; rfl

theorem first_one (key : Nat → Int) (x : Nat) : FirstOf key [x] x := ⟨by simp, fun y hy hne => absurd (by simpa using hy) hne⟩
theorem first_snoc {key : Nat → Int} {p : List Nat} {m x : Nat} (h : FirstOf key p m) (hx : key x < key m ∨ (key x = key m ∧ x < m)) : FirstOf key (p ++ [x]) x := by
  refine ⟨by simp, fun y hy hne => ?_⟩
  have hy' : y ∈ p := by rcases List.mem_append.1 hy with h | h; exact h; exact absurd (by simpa using h) hne
  by_cases e : y = m
  · subst e; exact hx
  · have := h.2 y hy' e; omega
theorem first_keep {key : Nat → Int} {p : List Nat} {m x : Nat} (h : FirstOf key p m) (hne : x ≠ m) (hx : ¬ (key x < key m ∨ (key x = key m ∧ x < m))) : FirstOf key (p ++ [x]) m := by
  refine ⟨List.mem_append_left _ h.1, fun y hy hny => ?_⟩
  rcases List.mem_append.1 hy with hy | hy
  · exact h.2 y hy hny
  · obtain rfl : y = x := by simpa using hy
    omega

theorem min_r {w : World} {pr : Nat} {vK vL : Value} {n : Nat} {key : Nat → Int} {L : List (Nat × Nat)} (h : RefAt w pr vK vL n key L) (hE : EL n L) (a b : Int) :
    Calls Try.prog 41 #[.pointer (some ⟨pr, 0, none⟩), .int .i64 a, .int .i64 b] w fun e w' => e = .returned (.tuple #[.int .i64 (minI n (EK L) key a b : Nat), .bool (connB n (EK L) a b)]) ∧ Fr [] w w' := by
  have hle := hE.le
  have hpl := pathL_len hE.elt a b
  have HP := Lib.hid (path_r h hE a b)
  have hcb := connB_path (n := n) (E := EK L) (a := a) (b := b)
  have hlt := pathL_lt (a := a) (b := b) hE.elt
  have hnd := pathL_nd (n := n) (E := EK L) a b
  have hmi := fun m => minI_eq (n := n) (E := EK L) (key := key) (a := a) (b := b) (m := m)
  have hm0 := minI_nil (n := n) (E := EK L) (key := key) (a := a) (b := b)
  generalize pathL n (EK L) a b = p at *
  generalize minI n (EK L) key a b = mi at *
  generalize connB n (EK L) a b = cb at *
  have HF := Lib.hid (And.intro hlt (And.intro hnd (And.intro hmi hm0))); clear hlt hnd hmi hm0
  clear hE
  have HH := Lib.hid h; clear h
  go_enter Try.func41, Try.ntmps41
  go_wp2_with fail
  refine HP.out.mono ?_
  clear HP
  rintro _ w1 ⟨v, rfl, hR, _, hF⟩
  have HR := Lib.hid hR
  obtain ⟨a1, c1, rfl⟩ := hR.slice
  clear hR
  by_cases h0 : p.length = 0
  · have hb : ((p.length : Int) == 0) = true := beq_iff_eq.2 (by omega)
    have e1 : cb = false := by rw [hcb]; exact decide_eq_false (by omega)
    have Hx := Lib.hid (And.intro e1 h0); clear e1 hcb h0
    go_wp2
    go_ret2
    refine ⟨?_, hF⟩
    rw [Hx.out.1, HF.out.2.2.2 (List.eq_nil_of_length_eq_zero Hx.out.2)]; rfl
  · have hb : ((p.length : Int) == 0) = false := beq_eq_false_iff_ne.2 (by omega)
    have e1 : cb = true := by rw [hcb]; exact decide_eq_true (by omega)
    have Hx := Lib.hid e1; clear e1 hcb
    have hpos : 0 < p.length := by omega
    obtain ⟨b1, c1', e1, _, r1⟩ := HR.out.at hpos
    simp only [Value.slice.injEq, true_and] at e1
    obtain ⟨rfl, rfl⟩ := e1
    have hi0 : (0 : Int) < p.length := by omega
    have HF0 := Lib.hid (show FirstOf key (p.take 1) p[0] by
      cases p with
      | nil => simp at hpos
      | cons x l => simpa using first_one key x)
    have Hm0 := Lib.hid (List.getElem_mem hpos)
    generalize p[0] = p0 at *
    have hH1 := HH.out.fr0 hF
    obtain ⟨aK, cK, rfl⟩ := hH1.slK
    have HH1 := Lib.hid hH1; clear hH1 HH
    go_wp2
    go_loopw [9, 10] (fun sb si wr => (∃ k, wr = w1.drewN k) ∧ ∃ (i best : Nat), 1 ≤ i ∧ i ≤ p.length ∧ si = .int .i64 i ∧ sb = .int .i64 best ∧ Hid (FirstOf key (p.take i) best)) (fun _ si _ => p.length - (intOf si).toNat)
    case atStart => exact ⟨⟨0, rfl⟩, 1, p0, Nat.le_refl _, hpos, rfl, rfl, HF0⟩
    case round =>
      clear HF0 Hm0 r1 h0 hb
      obtain ⟨⟨k, rfl⟩, i, best, hi1, hi, rfl, rfl, HB⟩ := hrel
      by_cases hlt : i < p.length
      · obtain ⟨b1', c1', e1, _, r1⟩ := HR.out.at hlt
        simp only [Value.slice.injEq, Option.some.injEq, Addr.mk.injEq, and_true, true_and] at e1
        obtain ⟨rfl, rfl⟩ := e1
        have hin : (i : Int) < p.length := by omega
        have hbm : best ∈ p := List.mem_of_mem_take HB.out.1
        have hpn := HF.out.1 _ (List.getElem_mem hlt)
        have hbn := HF.out.1 _ hbm
        have htk : p.take (i + 1) = p.take i ++ [p[i]] := by rw [List.take_add_one, List.getElem?_eq_getElem hlt]; rfl
        have hne : p[i] ≠ best := by
          intro e
          obtain ⟨j, hj, he⟩ := List.mem_take_iff_getElem.1 HB.out.1
          exact List.pairwise_iff_getElem.1 HF.out.2.1 j i (by omega) hlt (by omega) (he.trans e.symm)
        generalize p[i] = x at *
        obtain ⟨bK, cK', eK, k1, _⟩ := HH1.out.keyAt hpn
        obtain ⟨bK2, cK2, eK2, k2, _⟩ := HH1.out.keyAt hbn
        simp only [Value.slice.injEq, true_and] at eK eK2
        obtain ⟨rfl, rfl⟩ := eK
        simp only [Option.some.injEq, Addr.mk.injEq, and_true, true_and] at eK2
        obtain ⟨rfl, rfl⟩ := eK2
        have d1 := HH1.out.hd.cell 1
        simp only [List.getElem?_cons_zero, List.getElem?_cons_succ] at d1
        have hxn : (x : Int) < n := by omega
        have hbn2 : (best : Int) < n := by omega
        have Hnx := Lib.hid (And.intro htk hne); clear htk hne hbm
        by_cases t1 : key x < key best
        · have hd1 : decide (key x < key best) = true := decide_eq_true t1
          have Hst := Lib.hid (first_snoc HB.out (.inl t1)); rw [← Hnx.out.1] at Hst
          go_wp2
          go_quiet (fail)
          go_wp2
          go_roundw
          case rel => exact ⟨⟨_, rfl⟩, i + 1, x, by omega, by omega, by go_num, rfl, Hst⟩
          case measure => simp [intOf]; omega
        · have hd1 : decide (key x < key best) = false := decide_eq_false t1
          by_cases t2 : key x = key best
          · have hd2 : (key x == key best) = true := beq_iff_eq.2 t2
            by_cases t3 : x < best
            · have hd3 : decide ((x : Int) < (best : Int)) = true := decide_eq_true (by omega)
              have Hst := Lib.hid (first_snoc HB.out (.inr ⟨t2, t3⟩)); rw [← Hnx.out.1] at Hst
              have Ht := Lib.hid t2; clear t2
              go_wp2
              go_quiet (fail)
              go_wp2
              go_roundw
              case rel => exact ⟨⟨_, rfl⟩, i + 1, x, by omega, by omega, by go_num, rfl, Hst⟩
              case measure => simp [intOf]; omega
            · have hd3 : decide ((x : Int) < (best : Int)) = false := decide_eq_false (by omega)
              have Hst := Lib.hid (first_keep HB.out Hnx.out.2 (by omega)); rw [← Hnx.out.1] at Hst
              have Ht := Lib.hid t2; clear t2
              go_wp2
              go_quiet (fail)
              go_wp2
              go_roundw
              case rel => exact ⟨⟨_, rfl⟩, i + 1, best, by omega, by omega, by go_num, rfl, Hst⟩
              case measure => simp [intOf]; omega
          · have hd2 : (key x == key best) = false := beq_eq_false_iff_ne.2 t2
            have Hst := Lib.hid (first_keep HB.out Hnx.out.2 (by omega)); rw [← Hnx.out.1] at Hst
            go_wp2
            go_quiet (fail)
            go_wp2
            go_roundw
            case rel => exact ⟨⟨_, rfl⟩, i + 1, best, by omega, by omega, by go_num, rfl, Hst⟩
            case measure => simp [intOf]; omega
      · obtain rfl : i = p.length := by omega
        have hin : ¬ ((p.length : Int) < p.length) := by omega
        go_wp2
        go_ret2
        have hfb := HB.out
        rw [List.take_of_length_le (Nat.le_refl _)] at hfb
        exact ⟨by rw [HF.out.2.2.1 _ hfb, Hx.out]; rfl, hF.drewN _⟩

theorem on_r {w : World} {v : Value} {p : List Nat} (h : RowN w v p) (hp : p.length ≤ 65536) (x : Nat) :
    Calls Try.prog 57 #[v, .int .i64 x] w fun e w' => e = .returned (.bool (decide (x ∈ p))) ∧ w' = w := by
  obtain ⟨a1, c1, rfl⟩ := h.slice
  have HR := Lib.hid h; clear h
  go_enter Try.func57, Try.ntmps57
  go_wp2
  go_loopw [5] (fun si wr => wr = w ∧ ∃ i : Nat, i ≤ p.length ∧ si = .int .i64 i ∧ Hid (x ∉ p.take i)) (fun si _ => p.length - (intOf si).toNat)
  case atStart => exact ⟨rfl, 0, Nat.zero_le _, rfl, Lib.hid (by simp)⟩
  case round =>
    obtain ⟨rfl, i, hi, rfl, HN⟩ := hrel
    by_cases hlt : i < p.length
    · obtain ⟨b1, c1', e1, _, r1⟩ := HR.out.at hlt
      simp only [Value.slice.injEq, true_and] at e1
      obtain ⟨rfl, rfl⟩ := e1
      have hin : (i : Int) < p.length := by omega
      have htk : p.take (i + 1) = p.take i ++ [p[i]] := by rw [List.take_add_one, List.getElem?_eq_getElem hlt]; rfl
      have hmem := List.getElem_mem hlt
      generalize p[i] = y at *
      have Hm := Lib.hid (And.intro htk hmem); clear htk hmem
      by_cases hy : y = x
      · have hd : ((y : Int) == (x : Int)) = true := beq_iff_eq.2 (by omega)
        have Hy := Lib.hid hy; clear hy
        go_wp2
        go_ret
        refine ⟨?_, rfl⟩
        rw [decide_eq_true (show x ∈ p from Hy.out ▸ Hm.out.2)]; rfl
      · have hd : ((y : Int) == (x : Int)) = false := beq_eq_false_iff_ne.2 (by omega)
        have Hy := Lib.hid hy; clear hy
        go_wp2
        go_roundw
        case rel => exact ⟨by trivial, i + 1, by omega, by go_num, Lib.hid (by rw [Hm.out.1]; simp only [List.mem_append, List.mem_singleton, not_or]; exact ⟨HN.out, fun e => Hy.out e.symm⟩)⟩
        case measure => simp [intOf]; omega
    · obtain rfl : i = p.length := by omega
      have hin : ¬ ((p.length : Int) < p.length) := by omega
      go_wp2
      go_ret
      refine ⟨?_, rfl⟩
      have := HN.out
      rw [List.take_of_length_le (Nat.le_refl _)] at this
      rw [decide_eq_false this]; rfl

theorem pathL_conn {n : Nat} {E : Nat → Nat → Prop} {a b : Int} {x : Nat} (h : x ∈ pathL n E a b) : ConnI n E a b := by
  apply Classical.byContradiction
  intro hc
  unfold pathL at h; rw [if_neg hc] at h; cases h
theorem pathL_of {n : Nat} {E : Nat → Nat → Prop} (hf : Frs E) {a b : Int} (hc : ConnI n E a b) {p : List Nat} (hp : IsPath E a.toNat b.toNat p) : pathL n E a b = p := by
  unfold pathL; rw [if_pos hc]; exact thePath_eq hf hp
theorem meet_all {n : Nat} {E : Nat → Nat → Prop} (hf : Frs E) {a b c : Int} (h : meetB n E a b c = true) : ∀ x, (x ∈ pathL n E a b ∧ x ∈ pathL n E b c ∧ x ∈ pathL n E c a) ↔ x = meetI n E a b c := by
  have h' := h
  simp only [meetB, Bool.and_eq_true, connB_iff] at h'
  obtain ⟨h1, h2⟩ := h'
  obtain ⟨m, hm⟩ := meets_ex hf h1.2.2 h2.2.2
  have e : meetI n E a b c = m := by unfold meetI; rw [if_pos h]; exact theMeet_eq hf hm
  obtain ⟨p, q, r, hp, hq, hr, hx⟩ := hm
  have h3 : ConnI n E c a := ⟨h2.2.1, h1.1, hf.csymm (hf.ctrans h1.2.2 h2.2.2)⟩
  rw [pathL_of hf h1 hp, pathL_of hf h2 hq, pathL_of hf h3 hr, e]; exact hx
theorem meet_found {n : Nat} {E : Nat → Nat → Prop} (hf : Frs E) {a b c : Int} {x : Nat} (h1 : x ∈ pathL n E a b) (h2 : x ∈ pathL n E b c) (h3 : x ∈ pathL n E c a) : meetB n E a b c = true ∧ meetI n E a b c = x := by
  have h : meetB n E a b c = true := by simp only [meetB, Bool.and_eq_true, connB_iff]; exact ⟨pathL_conn h1, pathL_conn h2⟩
  exact ⟨h, ((meet_all hf h x).1 ⟨h1, h2, h3⟩).symm⟩
theorem meet_none {n : Nat} {E : Nat → Nat → Prop} (hf : Frs E) {a b c : Int} (h : ∀ x ∈ pathL n E a b, ¬ (x ∈ pathL n E b c ∧ x ∈ pathL n E c a)) : meetB n E a b c = false ∧ meetI n E a b c = 0 := by
  have hb : meetB n E a b c = false := by
    cases hb : meetB n E a b c with
    | false => rfl
    | true => have := (meet_all hf hb _).2 rfl; exact absurd this.2 (h _ this.1)
  exact ⟨hb, by unfold meetI; rw [hb]; rfl⟩

theorem meet_r {w : World} {pr : Nat} {vK vL : Value} {n : Nat} {key : Nat → Int} {L : List (Nat × Nat)} (h : RefAt w pr vK vL n key L) (hE : EL n L) (a b c : Int) :
    Calls Try.prog 42 #[.pointer (some ⟨pr, 0, none⟩), .int .i64 a, .int .i64 b, .int .i64 c] w fun e w' => e = .returned (.tuple #[.int .i64 (meetI n (EK L) a b c : Nat), .bool (meetB n (EK L) a b c)]) ∧ Fr [] w w' := by
  have hle := hE.le
  have hl1 := pathL_len hE.elt a b
  have hl2 := pathL_len hE.elt b c
  have hl3 := pathL_len hE.elt c a
  have HP1 := Lib.hid (path_r h hE a b)
  have HP2 := Lib.hid (fun (w' : World) (h' : Fr [] w w') => path_r (h.fr0 h') hE b c)
  have HP3 := Lib.hid (fun (w' : World) (h' : Fr [] w w') => path_r (h.fr0 h') hE c a)
  have hfo := fun x => meet_found (n := n) hE.frs (a := a) (b := b) (c := c) (x := x)
  have hno := meet_none (n := n) hE.frs (a := a) (b := b) (c := c)
  generalize pathL n (EK L) a b = p at *
  generalize pathL n (EK L) b c = q at *
  generalize pathL n (EK L) c a = r at *
  generalize meetI n (EK L) a b c = mi at *
  generalize meetB n (EK L) a b c = mb at *
  have HF := Lib.hid (And.intro hfo hno); clear hfo hno hE h
  go_enter Try.func42, Try.ntmps42
  go_wp2_with fail
  refine HP1.out.mono ?_
  clear HP1
  rintro _ w1 ⟨v1, rfl, R1, _, F1⟩
  have HR1 := Lib.hid R1
  obtain ⟨a1, c1, rfl⟩ := R1.slice
  clear R1
  go_wp2_with fail
  refine (HP2.out w1 F1).mono ?_
  clear HP2
  rintro _ w2 ⟨v2, rfl, R2, _, F2⟩
  have HR2 := Lib.hid R2
  have HR12 := Lib.hid (HR1.out.fr F2 (by simp))
  have F12 := F1.trans' F2
  clear HR1 F1 F2
  obtain ⟨a2, c2, rfl⟩ := R2.slice
  clear R2
  go_wp2_with fail
  refine (HP3.out w2 F12).mono ?_
  clear HP3
  rintro _ w3 ⟨v3, rfl, R3, _, F3⟩
  have HR3 := Lib.hid R3
  have HR23 := Lib.hid (HR2.out.fr F3 (by simp))
  have HR13 := Lib.hid (HR12.out.fr F3 (by simp))
  have F13 := F12.trans' F3
  clear HR12 HR2 F12 F3
  obtain ⟨a3, c3, rfl⟩ := R3.slice
  clear R3
  have HO2 := Lib.hid (fun x => on_r HR23.out (by omega) x)
  have HO3 := Lib.hid (fun x => on_r HR3.out (by omega) x)
  have HFr := Lib.hid F13; clear F13
  go_wp2
  go_loopw [13] (fun si wr => wr = w3 ∧ ∃ i : Nat, i ≤ p.length ∧ si = .int .i64 i ∧ Hid (∀ x ∈ p.take i, ¬ (x ∈ q ∧ x ∈ r))) (fun si _ => p.length - (intOf si).toNat)
  case atStart => exact ⟨rfl, 0, Nat.zero_le _, rfl, Lib.hid (by simp)⟩
  case round =>
    obtain ⟨rfl, i, hi, rfl, HN⟩ := hrel
    by_cases hlt : i < p.length
    · obtain ⟨b1, c1', e1, _, r1⟩ := HR13.out.at hlt
      simp only [Value.slice.injEq, true_and] at e1
      obtain ⟨rfl, rfl⟩ := e1
      have hin : (i : Int) < p.length := by omega
      have htk : p.take (i + 1) = p.take i ++ [p[i]] := by rw [List.take_add_one, List.getElem?_eq_getElem hlt]; rfl
      have hmem := List.getElem_mem hlt
      generalize p[i] = y at *
      have Hm := Lib.hid (And.intro htk hmem); clear htk hmem
      have H2 := Lib.hid (HO2.out y)
      have H3 := Lib.hid (HO3.out y)
      by_cases hy2 : y ∈ q
      · rw [decide_eq_true hy2] at H2
        by_cases hy3 : y ∈ r
        · rw [decide_eq_true hy3] at H3
          have Hy := Lib.hid (And.intro hy2 hy3); clear hy2 hy3
          go_wp2_with fail
          refine H2.out.mono ?_
          rintro _ w3 ⟨rfl, rfl⟩
          go_wp2_with fail
          refine H3.out.mono ?_
          rintro _ w3 ⟨rfl, rfl⟩
          go_wp2
          go_ret2
          obtain ⟨e1, e2⟩ := HF.out.1 y Hm.out.2 Hy.out.1 Hy.out.2
          exact ⟨by rw [e1, e2]; rfl, HFr.out⟩
        · rw [decide_eq_false hy3] at H3
          have Hy := Lib.hid hy3; clear hy2 hy3
          go_wp2_with fail
          refine H2.out.mono ?_
          rintro _ w3 ⟨rfl, rfl⟩
          go_wp2_with fail
          refine H3.out.mono ?_
          rintro _ w3 ⟨rfl, rfl⟩
          go_wp2
          go_roundw
          case rel =>
            refine ⟨by trivial, i + 1, by omega, by go_num, Lib.hid (fun x hx => ?_)⟩
            rw [Hm.out.1] at hx
            rcases List.mem_append.1 hx with hx | hx
            · exact HN.out x hx
            · obtain rfl : x = y := by simpa using hx
              exact fun e => Hy.out e.2
          case measure => simp [intOf]; omega
      · rw [decide_eq_false hy2] at H2
        have Hy := Lib.hid hy2; clear hy2
        go_wp2_with fail
        refine H2.out.mono ?_
        rintro _ w3 ⟨rfl, rfl⟩
        go_wp2
        go_roundw
        case rel =>
          refine ⟨by trivial, i + 1, by omega, by go_num, Lib.hid (fun x hx => ?_)⟩
          rw [Hm.out.1] at hx
          rcases List.mem_append.1 hx with hx | hx
          · exact HN.out x hx
          · obtain rfl : x = y := by simpa using hx
            exact fun e => Hy.out e.1
        case measure => simp [intOf]; omega
    · obtain rfl : i = p.length := by omega
      have hin : ¬ ((p.length : Int) < p.length) := by omega
      go_wp2
      go_ret2
      have := HN.out
      rw [List.take_of_length_le (Nat.le_refl _)] at this
      obtain ⟨e1, e2⟩ := HF.out.2 this
      exact ⟨by rw [e1, e2]; rfl, HFr.out⟩
end Go.Proofs.Ytoppjjgecgbbkaa
