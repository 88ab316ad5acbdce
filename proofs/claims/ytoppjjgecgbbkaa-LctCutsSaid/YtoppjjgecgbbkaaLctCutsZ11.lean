/- The statement 'LctCuts': for every input the call returns true, and each argument reads afterwards as it read before. -/
import Derived.Test.YtoppjjgecgbbkaaLctCutsZ9
import Derived.Test.YtoppjjgecgbbkaaLctCutsZ10
import Derived.Test.YtoppjjgecgbbkaaLctCutsZ1
/- LctCuts: the plain law, and the walk. -/
namespace Go.Proofs.Ytoppjjgecgbbkaa
open Go.RowKit Classical
set_option maxRecDepth 10000
set_option maxHeartbeats 1600000

section
variable {n : Nat} {E : Nat → Nat → Prop}
theorem wk_del {a b : Nat} : ∀ {x : Nat} {l : List Nat}, Wk E x l → a ∉ x :: l → Wk (delE E a b) x l
  | _, [], _, _ => trivial
  | x, y :: l, ⟨h1, h2⟩, hn => by
    simp only [List.mem_cons, not_or] at hn
    exact ⟨⟨h1, fun e => hn.1 e.1.symm, fun e => hn.2.1 e.2.symm⟩, wk_del h2 (by simp [hn.2.1, hn.2.2])⟩
theorem isPath_mono {E' : Nat → Nat → Prop} (h : ∀ v u, E v u → E' v u) {a b : Nat} {p : List Nat} (hp : IsPath E a b p) : IsPath E' a b p := by
  obtain ⟨l, e, hw, hn, hl⟩ := hp
  exact ⟨l, e, wk_mono h hw, hn, hl⟩
theorem del_conn (h : Frs E) {a b v : Nat} (_he : E a b) {p : List Nat} (hp : IsPath E a v p) : Conn (delE E a b) a v ↔ p[1]? ≠ some b := by
  constructor
  · rintro ⟨q, hq⟩ e
    have := h.unique (isPath_mono (fun _ _ h => h.1) hq) hp
    subst this
    obtain ⟨l, rfl, hw, _, _⟩ := hq
    match l, hw, e with
    | y :: l, ⟨h1, _⟩, e =>
      simp at e; subst e
      exact h1.2.1 ⟨rfl, rfl⟩
  · intro hne
    obtain ⟨l, rfl, hw, hn, hl⟩ := hp
    refine ⟨a :: l, l, rfl, ?_, hn, hl⟩
    match l, hw, hn, hne with
    | [], _, _, _ => trivial
    | y :: l, ⟨h1, h2⟩, hn, hne =>
      have hay : a ∉ y :: l := (List.nodup_cons.1 hn).1
      refine ⟨⟨h1, fun e => hne (by simp [e.2]), fun e => hay (by simp [e.2])⟩, wk_del h2 hay⟩
noncomputable def overB (n : Nat) (E : Nat → Nat → Prop) (a b v : Nat) : Bool := decide ((pathL n E a v)[1]? = some b)
theorem cut_conn (h : Frs E) {a b v : Nat} (he : E a b) : connB n (delE E a b) a v = (connB n E a v && !overB n E a b v) := by
  rw [Bool.eq_iff_iff]
  simp only [Bool.and_eq_true, connB_iff]
  by_cases hc : ConnI n E a v
  · have hp := pathL_is hc
    simp only [Int.toNat_natCast] at hp
    have := del_conn h he hp
    constructor
    · rintro ⟨_, _, hx⟩
      simp only [Int.toNat_natCast] at hx
      exact ⟨hc, by simpa [overB] using this.1 hx⟩
    · rintro ⟨_, ho⟩
      refine ⟨hc.1, hc.2.1, ?_⟩
      simp only [Int.toNat_natCast]
      exact this.2 (by simpa [overB] using ho)
  · constructor
    · rintro ⟨h1, h2, q, hq⟩
      exact absurd ⟨h1, h2, q, isPath_mono (fun _ _ h => h.1) hq⟩ hc
    · exact fun h => absurd h.1 hc
theorem del_none {a b : Nat} : ¬ delE E a b a b := fun h => h.2.1 ⟨rfl, rfl⟩
theorem add_comm (E : Nat → Nat → Prop) (a b : Nat) : addE E a b = addE E b a := E_ext (fun v u => by unfold addE; constructor <;> rintro (h | h | h) <;> simp [h])
end

/-- Two forests and a pair, made since the call began. -/
structure Own2 (w wr : World) (pf g pf' g' bx n : Nat) (E E' : Nat → Nat → Prop) (a b : Nat) : Prop where
  lm : LM wr pf g n E (fun _ => 0)
  lm' : LM wr pf' g' n E' (fun _ => 0)
  fr : Fr [] w wr
  new : w.heap.size ≤ pf ∧ w.heap.size ≤ g ∧ w.heap.size ≤ pf' ∧ w.heap.size ≤ g'
  apart : pf ≠ pf' ∧ pf ≠ g' ∧ g ≠ pf' ∧ g ≠ g' ∧ bx ≠ pf ∧ bx ≠ g ∧ bx ≠ pf' ∧ bx ≠ g'
  box : Blk wr bx 30 [.int .i64 a, .int .i64 b]
section
variable {w wr w' : World} {pf g pf' g' bx n : Nat} {E E' E'' : Nat → Nat → Prop} {a b : Nat} (h : Own2 w wr pf g pf' g' bx n E E' a b)
include h
theorem Own2.ask (hl : LG w' pf g n E (fun _ => 0) ((n : Int) - nc n E)) (hf : Fr [g] wr w') : Own2 w w' pf g pf' g' bx n E E' a b := by
  have h1 := h.new; have h2 := h.apart
  exact ⟨hl, LG.fr h.lm' hf (by simp; omega) (by simp; omega), h.fr.trans hf (fun q hq => .inr (by simp at hq; omega)), h.new, h.apart, hf.blk h.box (by simp; omega)⟩
theorem Own2.next' (hl : LM w' pf' g' n E'' (fun _ => 0)) (hf : Fr [pf', g'] wr w') : Own2 w w' pf g pf' g' bx n E E'' a b := by
  have h1 := h.new; have h2 := h.apart
  exact ⟨LG.fr h.lm hf (by simp; omega) (by simp; omega), hl, h.fr.trans hf (fun q hq => .inr (by simp at hq; omega)), h.new, h.apart, hf.blk h.box (by simp; omega)⟩
theorem Own2.ask' (hl : LG w' pf' g' n E' (fun _ => 0) ((n : Int) - nc n E')) (hf : Fr [g'] wr w') : Own2 w w' pf g pf' g' bx n E E' a b :=
  h.next' hl (hf.mono (fun q hq => .inl (by simp at hq; simp [hq])))
theorem Own2.drew (k : Nat) : Own2 w (wr.drewN k) pf g pf' g' bx n E E' a b :=
  h.ask (LG.fr h.lm ((Fr.refl [] wr).drewN k) (by simp) (by simp)) ((Fr.refl _ _).drewN k)
theorem Own2.below : Below w.heap.size w wr := h.fr.below (by simp)
end

theorem walk_lctCuts (W : World) (n : Int) (_wn : (Lit.int .i64 n).wf = true) (a : Option Addr) (len cap : Nat) (z : Nat → Int × Int) (hz : PairsF W a len z) (wh : Int) (wwh : (Lit.int .u8 wh).wf = true) :
    Calls Try.prog 9 #[.int .i64 n, .slice a len cap, .int .u8 wh] W fun e w' => e = .returned (.bool true) ∧ Below W.heap.size W w' := by
  have hl63 := hz.1
  have HZ := Lib.hid hz; clear hz
  by_cases hsm : 0 ≤ n ∧ n ≤ 60 ∧ len ≤ 60
  · obtain ⟨h0, h1, hlen⟩ := hsm
    obtain ⟨n, rfl⟩ : ∃ m : Nat, n = m := ⟨n.toNat, by omega⟩
    have hn3 : n ≤ 60 := by omega
    have hd0 : decide ((n : Int) < 0) = false := decide_eq_false (by omega)
    have hd1 : decide ((n : Int) > 60) = false := decide_eq_false (by omega)
    have hd2 : decide ((len : Int) > 60) = false := decide_eq_false (by omega)
    have hwh : 0 ≤ wh ∧ wh < 256 := by
      simp only [Lit.wf, Bool.and_eq_true, decide_eq_true_eq] at wwh
      rw [show IntKind.u8.min = 0 from rfl, show IntKind.u8.max = 255 from rfl] at wwh
      omega
    go_enter Try.func9, Try.ntmps9
    go_wp2_with fail
    refine (grown_w W n (by omega) a len cap (by omega) z HZ.out).mono ?_
    rintro _ w1 ⟨pf, g, v, rfl, hO, hown, hq⟩
    have hKl : (growK n z len).length ≤ 60 := Nat.le_trans (growK_len n z len) hlen
    have hKv := (growK_once n z len).2
    generalize growK n z len = K at *
    obtain ⟨a1, c1, rfl⟩ := ownsRow_slice hown
    have Hfs := Lib.hid (LG.frs hO.lm)
    have Hlt := Lib.hid (fun v u => LG.edge_lt hO.lm (v := v) (u := u))
    have HO := Lib.hid hO; clear hO
    have HQ := Lib.hid hq; clear hq
    by_cases hK0 : K.length = 0
    · have hb0 : ((K.length : Int) == 0) = true := beq_iff_eq.2 (by omega)
      go_wp2_with fail
      refine (works_w _).mono ?_
      rintro _ w6 ⟨rfl, hB⟩
      go_wp2
      go_ret
      exact ⟨rfl, HO.out.below.trans (hB.mono HO.out.fr.size)⟩
    · have hb0 : ((K.length : Int) == 0) = false := beq_eq_false_iff_ne.2 (by omega)
      obtain ⟨wn, hwn⟩ : ∃ m : Nat, wh = m := ⟨wh.toNat, by omega⟩
      subst hwn
      have hjK : wn % K.length < K.length := Nat.mod_lt _ (by omega)
      obtain ⟨a1', c1', e1, hPF⟩ := pairs_of_row hown (by omega)
      simp only [Value.slice.injEq, true_and] at e1
      obtain ⟨rfl, rfl⟩ := e1
      obtain ⟨b5, off, rfl, hb5, q50, q51⟩ := hPF.2 _ hjK
      dsimp only at q50 q51
      rw [List.getD_eq_getElem?_getD, List.getElem?_eq_getElem hjK, Option.getD_some] at q50 q51
      have hmem : K[wn % K.length]'hjK ∈ K := List.getElem_mem hjK
      obtain ⟨hx0, hx1, hxn⟩ := hKv _ hmem
      have hE : EK K (K[wn % K.length]'hjK).1 (K[wn % K.length]'hjK).2 := .inl hmem
      generalize (K[wn % K.length]'hjK).1 = x0 at *
      generalize (K[wn % K.length]'hjK).2 = x1 at *
      have HE := Lib.hid hE; clear hE hmem hKv hPF hown
      have Hxn := Lib.hid hxn; clear hxn
      have hw1 : IntKind.i64.wrap (wn : Int) = wn := IntWalk.i64_in _ (by omega)
      have hw2 : (wn : Int).tmod (K.length : Int) = ((wn % K.length : Nat) : Int) := by rw [Int.tmod_eq_emod_of_nonneg (by omega)]; simp
      have hj1 : ((wn % K.length : Nat) : Int) < (K.length : Int) := by omega
      have hj0 : (0 : Int) ≤ ((wn % K.length : Nat) : Int) := by omega
      have HK0 := Lib.hid hK0
      generalize wn % K.length = jx at *
      have hMa := LG.fr HO.out.lm ((Fr.refl [] w1).alloc (.cells #[.int .i64 x0, .int .i64 x1] 30)) (by simp) (by simp)
      have hbx : Blk (w1.alloc (.cells #[.int .i64 x0, .int .i64 x1] 30)) w1.heap.size 30 [.int .i64 x0, .int .i64 x1] := Blk.new w1 [_, _] _
      have hFa : Fr [] w1 (w1.alloc (.cells #[.int .i64 x0, .int .i64 x1] 30)) := (Fr.refl [] w1).alloc _
      have HCp := Lib.hid (copy_w hMa)
      have Hbx := Lib.hid (And.intro hbx hFa); clear hbx hMa hFa
      go_wp2_with fail
      refine HCp.out.mono ?_
      clear HCp
      rintro _ w2 ⟨pf', g', rfl, hL2, hF2, hpf', hg'⟩
      have hO2 : Own2 W w2 pf g pf' g' w1.heap.size n (EK K) (EK K) x0 x1 := by
        have h1 := LG.lts HO.out.lm
        have h2 := HO.out.pf; have h3 := HO.out.g; have h4 := HO.out.fr.size
        have hF1 := Hbx.out.2.trans' hF2
        simp only [World.size_alloc] at hpf' hg'
        exact ⟨LG.fr HO.out.lm hF1 (by simp) (by simp), hL2, HO.out.fr.trans' hF1, ⟨h2, h3, by omega, by omega⟩, by omega, hF2.blk Hbx.out.1 (by simp)⟩
      clear hL2 hF2 hpf' hg' Hbx HO q50 q51 HQ
      generalize w1.heap.size = bx at *
      have c0 := hO2.box.cell 0
      have c1' := hO2.box.cell 1
      simp only [List.getElem?_cons_zero, List.getElem?_cons_succ] at c0 c1'
      have iv0 : inV n (x0 : Int) = true := by simp [inV]; omega
      have iv1 : inV n (x1 : Int) = true := by simp [inV]; omega
      have Hcut := Lib.hid (show cutCode n (EK K) x0 x1 = 0 ∧ cutE n (EK K) x0 x1 = delE (EK K) x0 x1 by
        have h : cutCode n (EK K) x0 x1 = 0 := by unfold cutCode; rw [if_pos ⟨iv0, iv1⟩, Int.toNat_natCast, Int.toNat_natCast, if_pos HE.out]
        refine ⟨h, ?_⟩
        unfold cutE; rw [if_pos h, Int.toNat_natCast, Int.toNat_natCast])
      have Hcut2 := Lib.hid (show cutCode n (delE (EK K) x0 x1) x0 x1 = 5 ∧ cutE n (delE (EK K) x0 x1) x0 x1 = delE (EK K) x0 x1 by
        have h : cutCode n (delE (EK K) x0 x1) x0 x1 = 5 := by unfold cutCode; rw [if_pos ⟨iv0, iv1⟩, Int.toNat_natCast, Int.toNat_natCast, if_neg del_none]
        refine ⟨h, ?_⟩
        unfold cutE; rw [h]; simp)
      have hsep := del_sep Hfs.out HE.out
      clear iv0 iv1
      have hcut := cut_w hO2.lm' (x0 : Int) (x1 : Int)
      rw [Hcut.out.1, Hcut.out.2] at hcut
      have HC := Lib.hid hcut; clear hcut
      have HO2 := Lib.hid hO2; clear hO2
      have Hsep := Lib.hid hsep; clear hsep
      go_wp2_with fail
      refine HC.out.mono ?_
      rintro _ w3 ⟨rfl, hL3, hF3⟩
      have HO3 := Lib.hid (HO2.out.next' hL3 hF3)
      have Hfd := Lib.hid (LG.frs hL3)
      have Hnc := Lib.hid (nc_del (n := n) Hfs.out Hfd.out HE.out hx0 hx1)
      clear hL3 hF3 HC HO2 c0 c1' Hcut
      have hT1 := trees_w HO3.out.lm'
      have hT2 := fun k => trees_w (HO3.out.drew k).lm
      have hnle := nc_le n (EK K)
      rw [Hnc.out] at hT1
      have HT1 := Lib.hid hT1; clear hT1
      have HT2 := Lib.hid hT2; clear hT2
      have Hcc := Lib.hid (fun v : Nat => cut_conn (n := n) (v := v) Hfs.out HE.out)
      have Hre := Lib.hid (show addE (delE (EK K) x0 x1) x1 x0 = EK K by rw [add_comm, add_del Hfs.out HE.out])
      obtain ⟨ncE, hncE⟩ : ∃ m, nc n (EK K) = m := ⟨_, rfl⟩
      rw [hncE] at HT1 HT2 hnle
      have HncE := Lib.hid hncE; clear hncE
      go_wp2_with fail
      refine HT1.out.mono ?_
      rintro _ w4 ⟨rfl, k4, rfl⟩
      go_wp2_with fail
      refine (HT2.out _).mono ?_
      rintro _ w5 ⟨rfl, k5, rfl⟩
      have HO5 := Lib.hid ((HO3.out.drew k4).drew k5)
      generalize (w3.drewN k4).drewN k5 = w5 at *
      have hne0 : (((ncE + 1 : Nat) : Int) != (ncE : Int) + 1) = false := by simp
      clear HT1 HT2 HO3
      go_wp2
      go_loopw [11] (fun i wr => ∃ v : Nat, v ≤ n ∧ i = .int .i64 v ∧ Hid (Own2 W wr pf g pf' g' bx n (EK K) (delE (EK K) x0 x1) x0 x1)) (fun i _ => n - (intOf i).toNat)
      case atStart => exact ⟨0, Nat.zero_le _, rfl, HO5⟩
      case round =>
        clear HO5
        obtain ⟨v, hv, rfl, HO⟩ := hrel
        by_cases hlt : v < n
        · have c0 := HO.out.box.cell 0
          simp only [List.getElem?_cons_zero, List.getElem?_cons_succ] at c0
          have hvn : (v : Int) < n := by omega
          go_wp2_with fail
          refine (pathf_w HO.out.lm (x0 : Int) (v : Int)).mono ?_
          rintro _ w6 ⟨vp, rfl, rp, op, h6, f6⟩
          have HO6 := Lib.hid (HO.out.ask h6 f6)
          have R2 := Lib.hid (show RowN w6 vp (pathL n (EK K) x0 v) from rp)
          have hcc := Hcc.out v
          obtain ⟨ov, hov⟩ : ∃ ov, overB n (EK K) x0 x1 v = ov := ⟨_, rfl⟩
          obtain ⟨cc, hcd⟩ : ∃ cc, connB n (EK K) x0 v = cc := ⟨_, rfl⟩
          rw [hov, hcd] at hcc
          have hov2 : decide ((pathL n (EK K) x0 v)[1]? = some x1) = ov := hov
          have hpl : (pathL n (EK K) x0 v).length ≤ 60 := Nat.le_trans (nodup_le (pathL_nd _ _) (pathL_lt Hlt.out)) hn3
          generalize pathL n (EK K) x0 v = p at *
          obtain ⟨ap, cp, rfl⟩ := R2.out.slice
          have Hcf := Lib.hid (fun (w' : World) (h : Own2 W w' pf g pf' g' bx n (EK K) (delE (EK K) x0 x1) x0 x1) => (show Calls Try.prog 15 #[.pointer (some ⟨pf, 0, none⟩), .int .i64 x0, .int .i64 v] w' fun e w'' => e = .returned (.bool cc) ∧ Own2 W w'' pf g pf' g' bx n (EK K) (delE (EK K) x0 x1) x0 x1 by
            have := connected_d h.lm (x0 : Int) (v : Int)
            rw [hcd] at this
            refine this.mono ?_
            rintro _ w'' ⟨rfl, h1, h2⟩
            exact ⟨rfl, h.ask h1 h2⟩))
          have Hcg := Lib.hid (fun (w' : World) (h : Own2 W w' pf g pf' g' bx n (EK K) (delE (EK K) x0 x1) x0 x1) => (show Calls Try.prog 15 #[.pointer (some ⟨pf', 0, none⟩), .int .i64 x0, .int .i64 v] w' fun e w'' => e = .returned (.bool (cc && !ov)) ∧ Own2 W w'' pf g pf' g' bx n (EK K) (delE (EK K) x0 x1) x0 x1 by
            have := connected_d h.lm' (x0 : Int) (v : Int)
            rw [hcc] at this
            refine this.mono ?_
            rintro _ w'' ⟨rfl, h1, h2⟩
            exact ⟨rfl, h.ask' h1 h2⟩))
          clear hcc hov hcd rp h6 f6 op
          have c6 := HO6.out.box.cell 0
          have d6 := HO6.out.box.cell 1
          simp only [List.getElem?_cons_zero, List.getElem?_cons_succ] at c6 d6
          have hO6 : ∀ k, Own2 W (w6.drewN k).drew pf g pf' g' bx n (EK K) (delE (EK K) x0 x1) x0 x1 := fun k => (HO6.out.drew k).drew 1
          by_cases h1p : 1 < p.length
          · obtain ⟨b2, c2', e2, _, q2⟩ := R2.out.at h1p
            simp only [Value.slice.injEq, true_and] at e2
            obtain ⟨rfl, rfl⟩ := e2
            rw [List.getElem?_eq_getElem h1p] at hov2
            have hov3 : (((p[1]'h1p : Nat) : Int) == (x1 : Int)) = ov := by
              rw [← hov2, Bool.eq_iff_iff]; simp only [beq_iff_eq, decide_eq_true_eq, Option.some.injEq]; omega
            clear hov2
            generalize p[1]'h1p = p1 at *
            have hd1 : decide ((p.length : Int) > 1) = true := decide_eq_true (by omega)
            have hi1 : (1 : Int) < p.length := by omega
            go_wp2
            go_quiet (fail)
            clear q2 hov3
            go_wp2
            refine region_class (fun w' => Own2 W w' pf g pf' g' bx n (EK K) (delE (EK K) x0 x1) x0 x1) (by kernel_rfl) (by kernel_rfl) (hO6 _) ?_
            iterate 2 (refine cWalk_pure (fun KK hK => ?_); go_simp; refine hK _ ?_; clear hK KK)
            refine cWalk_val rfl (.int .i64 x0) (fun w' hw' => ?_) ?_
            · have c0 := hw'.box.cell 0
              simp only [List.getElem?_cons_zero] at c0
              go_simp
            iterate 1 (refine cWalk_pure (fun KK hK => ?_); go_simp; refine hK _ ?_; clear hK KK)
            refine cWalk_val rfl (.bool (cc && !ov)) (fun w' hw' => ?_) ?_
            · go_simp
              exact Hcg.out _ hw'
            iterate 2 (refine cWalk_pure (fun KK hK => ?_); go_simp; refine hK _ ?_; clear hK KK)
            refine cWalk_val rfl (.int .i64 x0) (fun w' hw' => ?_) ?_
            · have c0 := hw'.box.cell 0
              simp only [List.getElem?_cons_zero] at c0
              go_simp
            iterate 1 (refine cWalk_pure (fun KK hK => ?_); go_simp; refine hK _ ?_; clear hK KK)
            refine cWalk_val rfl (.bool cc) (fun w' hw' => ?_) ?_
            · go_simp
              exact Hcf.out _ hw'
            clear Hcf Hcg hO6 c6 d6 HO6 HO R2
            cases cc <;> cases ov
            all_goals iterate 5 (refine cWalk_pure (fun KK hK => ?_); go_simp; refine hK _ ?_; clear hK KK)
            all_goals refine cWalk_nil ?_
            all_goals intro w7 h7
            all_goals go_wp2
            all_goals go_roundw
            all_goals first
              | (refine ⟨v + 1, by omega, by go_num, Lib.hid h7⟩)
              | (simp [intOf]; omega)
          · have hov3 : ov = false := by
              rw [← hov2, List.getElem?_eq_none (by omega)]; rfl
            clear hov2
            subst hov3
            have hd1 : decide ((p.length : Int) > 1) = false := decide_eq_false (by omega)
            simp only [Bool.not_false, Bool.and_true] at Hcg
            go_wp2
            go_quiet (fail)
            go_wp2
            refine region_class (fun w' => Own2 W w' pf g pf' g' bx n (EK K) (delE (EK K) x0 x1) x0 x1) (by kernel_rfl) (by kernel_rfl) (hO6 _) ?_
            iterate 2 (refine cWalk_pure (fun KK hK => ?_); go_simp; refine hK _ ?_; clear hK KK)
            refine cWalk_val rfl (.int .i64 x0) (fun w' hw' => ?_) ?_
            · have c0 := hw'.box.cell 0
              simp only [List.getElem?_cons_zero] at c0
              go_simp
            iterate 1 (refine cWalk_pure (fun KK hK => ?_); go_simp; refine hK _ ?_; clear hK KK)
            refine cWalk_val rfl (.bool cc) (fun w' hw' => ?_) ?_
            · go_simp
              exact Hcg.out _ hw'
            iterate 2 (refine cWalk_pure (fun KK hK => ?_); go_simp; refine hK _ ?_; clear hK KK)
            refine cWalk_val rfl (.int .i64 x0) (fun w' hw' => ?_) ?_
            · have c0 := hw'.box.cell 0
              simp only [List.getElem?_cons_zero] at c0
              go_simp
            iterate 1 (refine cWalk_pure (fun KK hK => ?_); go_simp; refine hK _ ?_; clear hK KK)
            refine cWalk_val rfl (.bool cc) (fun w' hw' => ?_) ?_
            · go_simp
              exact Hcf.out _ hw'
            clear Hcf Hcg hO6 c6 d6 HO6 HO R2
            cases cc
            all_goals iterate 5 (refine cWalk_pure (fun KK hK => ?_); go_simp; refine hK _ ?_; clear hK KK)
            all_goals refine cWalk_nil ?_
            all_goals intro w7 h7
            all_goals go_wp2
            all_goals go_roundw
            all_goals first
              | (refine ⟨v + 1, by omega, by go_num, Lib.hid h7⟩)
              | (simp [intOf]; omega)
        · have hve : v = n := by omega
          subst hve
          have hvn : ¬ ((v : Int) < v) := by omega
          clear hlt Hcc Hnc
          have c0 := HO.out.box.cell 0
          have d0 := HO.out.box.cell 1
          simp only [List.getElem?_cons_zero, List.getElem?_cons_succ] at c0 d0
          have hcut := cut_w HO.out.lm' (x0 : Int) (x1 : Int)
          rw [Hcut2.out.1, Hcut2.out.2] at hcut
          have HC := Lib.hid hcut; clear hcut
          go_wp2_with fail
          refine HC.out.mono ?_
          rintro _ w6 ⟨rfl, hL6, hF6⟩
          have HO6 := Lib.hid (HO.out.next' hL6 hF6)
          clear hL6 hF6 HC HO c0 d0
          have c0 := HO6.out.box.cell 0
          have d0 := HO6.out.box.cell 1
          simp only [List.getElem?_cons_zero, List.getElem?_cons_succ] at c0 d0
          have hlk : linkCode v (delE (EK K) x0 x1) x1 x0 = 0 := by
            have iv0 : inV v (x0 : Int) = true := by simp [inV]; omega
            have iv1 : inV v (x1 : Int) = true := by simp [inV]; omega
            unfold linkCode
            rw [if_pos ⟨iv1, iv0⟩, Int.toNat_natCast, Int.toNat_natCast, if_neg (fun e => Hxn.out (by omega)), if_neg]
            exact fun hc => Hsep.out (Hfd.out.csymm hc)
          have hle : linkE v (delE (EK K) x0 x1) x1 x0 = EK K := by
            unfold linkE; rw [if_pos hlk, Int.toNat_natCast, Int.toNat_natCast, Hre.out]
          have hlw := link_w HO6.out.lm' (x1 : Int) (x0 : Int)
          rw [hlk, hle] at hlw
          have HC := Lib.hid hlw; clear hlw hlk hle
          go_wp2_with fail
          refine HC.out.mono ?_
          rintro _ w7 ⟨rfl, hL7, hF7⟩
          have HO7 := Lib.hid (HO6.out.next' hL7 hF7)
          clear hL7 hF7 HC HO6 c0 d0
          clear Hcut2 Hsep Hre HncE Hfd
          have Hpl := Lib.hid (fun u : Nat => show (pathL v (EK K) x0 u).length ≤ 65536 from Nat.le_trans (Nat.le_trans (nodup_le (pathL_nd _ _) (pathL_lt Hlt.out)) hn3) (by omega))
          go_wp2
          go_loopw [14] (fun i wr => ∃ u : Nat, u ≤ v ∧ i = .int .i64 u ∧ Hid (Own2 W wr pf g pf' g' bx v (EK K) (EK K) x0 x1)) (fun i _ => v - (intOf i).toNat)
          case atStart => exact ⟨0, Nat.zero_le _, rfl, HO7⟩
          case round =>
            clear HO7
            obtain ⟨u, hu, rfl, HO⟩ := hrel
            by_cases hlt : u < v
            · have c0 := HO.out.box.cell 0
              simp only [List.getElem?_cons_zero, List.getElem?_cons_succ] at c0
              have hvu : (u : Int) < v := by omega
              have hO1 : Own2 W wr.drew pf g pf' g' bx v (EK K) (EK K) x0 x1 := HO.out.drew 1
              have HpA := Lib.hid (show Calls Try.prog 22 #[.pointer (some ⟨pf', 0, none⟩), .int .i64 x0, .int .i64 u] wr.drew (fun e wA => ∃ vA, e = .returned vA ∧ Own2 W wA pf g pf' g' bx v (EK K) (EK K) x0 x1 ∧
                  Calls Try.prog 22 #[.pointer (some ⟨pf, 0, none⟩), .int .i64 x0, .int .i64 u] wA (fun e wB => ∃ vB, e = .returned vB ∧ Own2 W wB pf g pf' g' bx v (EK K) (EK K) x0 x1 ∧
                    Calls Try.prog 23 #[vA, vB] wB (fun e wC => e = .returned (.bool true) ∧ Own2 W wC pf g pf' g' bx v (EK K) (EK K) x0 x1))) by
                refine (pathf_w hO1.lm' (x0 : Int) (u : Int)).mono ?_
                rintro e wA ⟨vA, rfl, rA, oA, lA, fA⟩
                have hA := hO1.ask' lA fA
                refine ⟨vA, rfl, hA, ?_⟩
                refine (pathf_w hA.lm (x0 : Int) (u : Int)).mono ?_
                rintro e wB ⟨vB, rfl, rB, oB, lB, fB⟩
                have hB := hA.ask lB fB
                refine ⟨vB, rfl, hB, ?_⟩
                have rA2 : RowN wB vA (pathL v (EK K) x0 u) := RowN.fr rA fB (fun q hq => by
                  have h1 := oA q hq
                  have h2 := LG.lts hO1.lm
                  simp; omega)
                refine (same_w rA2 rB (Hpl.out u) (Hpl.out u)).mono ?_
                rintro e wC ⟨rfl, kC, rfl⟩
                exact ⟨by rw [decide_eq_true rfl], hB.drew kC⟩)
              go_wp2
              go_region_held3 (fun w' => w'.cell? ⟨bx, 0, none⟩ = some (.int .i64 x0))
                (first
                  | go_keep
                  | (exact hC.box.cell 0)
                  | (exact hB.box.cell 0)
                  | (exact hA.box.cell 0))
                (first
                  | (go_at_call 22; with_reducible refine HpA.out.mono ?_; rintro e wA ⟨vA, rfl, hA, hcA⟩)
                  | (go_at_call 22; with_reducible refine hcA.mono ?_; rintro e wB ⟨vB, rfl, hB, hcB⟩)
                  | (go_at_call 23; with_reducible refine hcB.mono ?_; rintro e wC ⟨rfl, hC⟩))
              go_wp2
              go_roundw
              case rel => exact ⟨u + 1, by omega, by go_num, Lib.hid hC⟩
              case measure => simp [intOf]; omega
            · have hve : u = v := by omega
              subst hve
              have hvn : ¬ ((u : Int) < u) := by omega
              go_wp2_with fail
              refine (works_w _).mono ?_
              rintro _ w6 ⟨rfl, hB⟩
              go_wp2
              go_ret
              exact ⟨rfl, HO.out.below.trans (hB.mono HO.out.fr.size)⟩
  · by_cases h1 : n < 0
    · have hd0 : decide (n < 0) = true := decide_eq_true h1
      go_enter Try.func9, Try.ntmps9
      go_wp2_with fail
      refine (works_w _).mono ?_
      rintro _ w6 ⟨rfl, hB⟩
      go_wp2
      go_ret
      exact ⟨rfl, hB⟩
    · have hd0 : decide (n < 0) = false := decide_eq_false h1
      by_cases h2 : n > 60
      · have hd1 : decide (n > 60) = true := decide_eq_true h2
        go_enter Try.func9, Try.ntmps9
        go_wp2_with fail
        refine (works_w _).mono ?_
        rintro _ w6 ⟨rfl, hB⟩
        go_wp2
        go_ret
        exact ⟨rfl, hB⟩
      · have hd1 : decide (n > 60) = false := decide_eq_false h2
        have hd2 : decide ((len : Int) > 60) = true := decide_eq_true (by omega)
        go_enter Try.func9, Try.ntmps9
        go_wp2_with fail
        refine (works_w _).mono ?_
        rintro _ w6 ⟨rfl, hB⟩
        go_wp2
        go_ret
        exact ⟨rfl, hB⟩

end Go.Proofs.Ytoppjjgecgbbkaa

namespace Go.Proofs.Ytoppjjgecgbbkaa.lctCuts
open Go.ChangeShapes Go.WideShapes Go.ChangeAt Go.RowKit
set_option linter.unusedVariables false

theorem own : ownKnob Try.prog.godebug = none := by kernel_rfl
theorem laidOut : laidOutB Try.prog = true := by kernel_rfl

set_option maxRecDepth 100000 in
theorem lifted (os : Os) (started : os.Started) (H : Type) (enc : TypeId × Value → H) :
    ReturnsInHanded {} Try.checked os 9 .any (Rows.lctCutsSpec.pre6 enc Try.prog Try.f9 Rows.lctCutsRow.domain false) (Rows.lctCutsSpec.post enc Try.prog Try.f9 false true false false) := by
  refine returnsInHanded_of_change (C := Try.checked) own started (by kernel_rfl) Try.func9
    (ChangeSpec.witness6 (enc := enc) (C := Try.checked) false ⟨#[], #[.int .i64 0, .slice none 0 0, .int .u8 0], []⟩ 8 (by kernel_rfl) (by kernel_rfl) (by kernel_rfl) (by kernel_rfl)) ?_
  intro W base args ds gs before hval0 hW hcnd _
  have hval : ∀ (j : Nat) t v, Try.f9.params[j]? = some t → args[j]? = some v → Value.okWide Try.prog W .any base t v := hval0
  have hW' := hW
  obtain ⟨p, q, hA0, hV, rfl, hfz, hnd⟩ := hW
  have hA : DataW.TrodAll enc Try.prog W 0 (fun _ => true) true Try.f9.params.toList args.toList ds p := hA0
  rw [Try.params9] at hA hval
  obtain ⟨v0, vs0, d0, ds0, p0, q0, hargs, rfl, rfl, h0, r0⟩ := trodAll_cons hA
  obtain ⟨v1, vs1, d1, ds1, p1, q1, rfl, rfl, rfl, h1, r1⟩ := trodAll_cons r0
  obtain ⟨v2, vs2, d2, ds2, p2, q2, rfl, rfl, rfl, h2, r2⟩ := trodAll_cons r1
  obtain ⟨rfl, rfl, rfl⟩ := trodAll_nil r2
  obtain rfl : args = #[v0, v1, v2] := by cases args; simp_all
  obtain ⟨rfl, rfl⟩ := trodVars_none hV
  obtain ⟨a0, rfl, rfl, rfl, w0⟩ := open_int Try.underlying3 (hval 0 3 v0 rfl rfl) h0
  obtain ⟨a1, len1, cap1, rfl⟩ := okWide_slice Try.underlying22 (hval 1 22 v1 rfl rfl)
  have k1 := h1
  have lt1 : ∀ x ∈ p1, x.block < W.heap.size := by obtain ⟨m, hm⟩ := k1; exact DataW.trod_lt m _ _ _ hm
  obtain ⟨z1, w1⟩ := open_pairs h1
  obtain ⟨a2, rfl, rfl, rfl, w2⟩ := open_int Try.underlying5 (hval 2 5 v2 rfl rfl) h2
  clear hA0 hval0
  refine (walk_lctCuts W a0 w0 a1 len1 cap1 z1 w1 a2 w2).mono fun e W' ⟨he, bel⟩ => ?_
  subst he
  exact ⟨_, rfl, _, _, _, [], _, [], hW', trodAll_mk1 (shut_bool Try.underlying4 _), (trodAll_cons_mk (shut_int Try.underlying3 w0) (trodAll_cons_mk (Below.trod laidOut (by kernel_rfl) (of_decide_eq_true (by kernel_rfl)) k1 bel lt1) (trodAll_cons_mk (shut_int Try.underlying5 w2) trodAll_mk0))), rfl, bel.frame _, fun h => by cases h⟩

theorem over : Rows.lctCutsRow.holds Try.pinned (OpenSpec.ofChange Rows.lctCutsSpec) :=
  OpenClaim.holds_of_wide 9 Try.f9 rfl rfl rfl rfl rfl rfl rfl ⟨rfl, rfl, rfl, rfl, rfl⟩ rfl rfl rfl rfl rfl (by kernel_rfl) Try.func9 (by kernel_rfl)
    (of_decide_eq_true (by kernel_rfl)) (by unfold Func.isWrapper; first | (rw [if_pos (by decide +kernel)]; kernel_rfl) | (rw [if_neg (by decide +kernel)]; exact ⟨rfl, rfl⟩))
    (fun os started H enc _ => lifted os started H enc)

end Go.Proofs.Ytoppjjgecgbbkaa.lctCuts

namespace Go.Proofs.Ytoppjjgecgbbkaa
theorem lctCuts_holds : Rows.LctCutsSaid := lctCuts.over
#print axioms lctCuts_holds
end Go.Proofs.Ytoppjjgecgbbkaa
