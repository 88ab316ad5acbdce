/- lct: lead, path, has, check, Connected, Size, Trees, Dist, Min, Meet. -/
import Derived.Test.YtoppjjgecgbbkaaLctExpose
import Derived.Test.YtoppjjgecgbbkaaLctVert
namespace Go.Proofs.Ytoppjjgecgbbkaa
open Go.RowKit
set_option maxRecDepth 10000
set_option maxHeartbeats 800000

theorem lead_w {w : World} {pf g N cap : Nat} {σ : Tbl} {ed : Int} (h : LctAt w pf g N cap σ ed) {par d rt : Nat → Nat} {F : Fst} (hF : LF N σ F par d rt) (i : Nat) (hi0 : 0 < i) (hi : i < N) :
    Calls Try.prog 36 #[.pointer (some ⟨pf, 0, none⟩), .int .i64 i] w fun e w' => e = .returned (.tuple #[]) ∧ ∃ τ l R par' d' rt', LctAt w' pf g N cap τ ed ∧ LF N τ ((.node true l i .nil, 0) :: R) par' d' rt' ∧ (∀ x, (τ x).key = (σ x).key) ∧
      (∀ x y, Adj par' x y ↔ Adj par x y) ∧ (∀ x y, rt' x = rt' y ↔ rt x = rt y) ∧ rt' i = i ∧ Fr [g] w w' := by
  have hN := h.le
  have hi2 : (i : Int) < N := by omega
  go_enter Try.func36, Try.ntmps36
  go_wp2_with fail
  refine (expose_w h hF i hi0 hi).mono ?_
  rintro _ w2 ⟨m, τ, l, R, rfl, hL2, hE, hF2⟩
  obtain ⟨par', d', rt', q1, q2, q3, q4, q5⟩ := hE.lf.lead
  have HE := Lib.hid hE.key
  have Q := Lib.hid (And.intro q1 (And.intro q2 (And.intro q3 q4)))
  clear q1 q2 q3 q4 q5 hE h hF
  have d1 := hL2.hd.cell 1
  simp only [List.getElem?_cons_zero, List.getElem?_cons_succ] at d1
  have a3 := hL2.nodes.c3 i hi
  have hfz := hL2.nodes.frozen
  obtain ⟨hL3, hF3⟩ := hL2.st3 hF2 hi true
  go_wp2
  go_end0
  refine ⟨rfl, _, l, R, par', d', rt', hL3, Q.out.1, fun x => ?_, Q.out.2.1, Q.out.2.2.1, Q.out.2.2.2, hF3⟩
  rw [← HE.out x]
  by_cases e : x = i
  · subst e; rw [upd_same]
  · rw [upd_other e]

/-- What path makes of the forest. -/
structure Pathed (N : Nat) (σ : Tbl) (par rt : Nat → Nat) (i j : Nat) (τ : Tbl) (l : BT) (R : Fst) (par' d' rt' : Nat → Nat) : Prop where
  lf : LF N τ ((.node false l j .nil, 0) :: R) par' d' rt'
  key : ∀ x, (τ x).key = (σ x).key
  adj : ∀ x y, Adj par' x y ↔ Adj par x y
  rts : ∀ x y, rt' x = rt' y ↔ rt x = rt y
  rti : rt' i = i
  path : rt i = rt j → IsPath (Adj par) i j (l.seq ++ [j])

theorem path_w {w : World} {pf g N cap : Nat} {σ : Tbl} {ed : Int} (h : LctAt w pf g N cap σ ed) {par d rt : Nat → Nat} {F : Fst} (hF : LF N σ F par d rt) (i j : Nat) (hi0 : 0 < i) (hi : i < N) (hj0 : 0 < j) (hj : j < N) :
    Calls Try.prog 38 #[.pointer (some ⟨pf, 0, none⟩), .int .i64 i, .int .i64 j] w fun e w' => e = .returned (.tuple #[]) ∧ ∃ τ l R par' d' rt', LctAt w' pf g N cap τ ed ∧ Pathed N σ par rt i j τ l R par' d' rt' ∧ Fr [g] w w' := by
  go_enter Try.func38, Try.ntmps38
  go_wp2_with fail
  refine (lead_w h hF i hi0 hi).mono ?_
  rintro _ w2 ⟨rfl, τ, l, R, par', d', rt', hL2, hF', hkey, hadj, hrt, hri, hFr2⟩
  have HF' := Lib.hid hF'; clear hF'
  have Q := Lib.hid (And.intro hkey (And.intro hadj (And.intro hrt hri)))
  clear hkey hadj hrt hri h hF
  go_wp2_with fail
  refine (expose_w hL2 HF'.out j hj0 hj).mono ?_
  rintro _ w3 ⟨m, τ3, l3, R3, rfl, hL3, hE, hFr3⟩
  have HE := Lib.hid hE; clear hE
  go_wp2
  go_end0
  obtain ⟨hkey, hadj, hrt, hri⟩ := Q.out
  have hE := HE.out
  refine ⟨rfl, τ3, l3, R3, par', d', rt', hL3, ⟨hE.lf, fun x => (hE.key x).trans (hkey x), hadj, hrt, hri, fun e => ?_⟩, hFr2.then hFr3⟩
  obtain ⟨hn, hz, hc⟩ := hE.lf.top_seq
  have hjm : j ∈ l3.seq ++ [j] := by simp
  have hl : (l3.seq ++ [j]).getLast? = some j := last_snoc _ _
  generalize l3.seq ++ [j] = s at *
  cases s with
  | nil => cases hjm
  | cons y s =>
    have hy : y = i := by
      rw [← ch_rt_head hE.lf.rt0 hE.lf.rt1 hc hz j hjm, (hrt j i).2 e.symm, hri]
    subst hy
    have : IsPath (Adj par') y j (y :: s) := ⟨s, rfl, ch_wk (hz y (by simp)) (fun x hx => hz x (by simp [hx])) hc.2, hn, hl⟩
    exact this.mono (fun x y => (hadj x y).1)

/-- A forest of n vertices with the edges E. -/
def LG (w : World) (pf g n : Nat) (E : Nat → Nat → Prop) (key : Nat → Int) (ed : Int) : Prop :=
  ∃ cap σ F par d rt, LctAt w pf g (n + 1) cap σ ed ∧ LF (n + 1) σ F par d rt ∧ (∀ v u, E v u ↔ Adj par (v + 1) (u + 1)) ∧ ∀ v, v < n → (σ (v + 1)).key = key v

theorem LG.frs {w : World} {pf g n : Nat} {E : Nat → Nat → Prop} {key : Nat → Int} {ed : Int} (h : LG w pf g n E key ed) : Frs E := by
  obtain ⟨cap, σ, F, par, d, rt, _, h2, h3, _⟩ := h
  exact ⟨par, d, rt, h2.rtd, h3⟩
theorem LG.lts {w : World} {pf g n : Nat} {E : Nat → Nat → Prop} {key : Nat → Int} {ed : Int} (h : LG w pf g n E key ed) : pf < w.heap.size ∧ g < w.heap.size ∧ n ≤ 65536 := by
  obtain ⟨cap, σ, F, par, d, rt, h1, _⟩ := h
  have := h1.le
  exact ⟨h1.lts.1, h1.lts.2, by omega⟩
theorem LG.fr {w w' : World} {pf g n : Nat} {E : Nat → Nat → Prop} {key : Nat → Int} {ed : Int} {S : List Nat} (h : LG w pf g n E key ed) (hf : Fr S w w') (hp : pf ∉ S) (hg : g ∉ S) : LG w' pf g n E key ed := by
  obtain ⟨cap, σ, F, par, d, rt, h1, h2⟩ := h
  exact ⟨cap, σ, F, par, d, rt, ⟨hf.blk h1.hd hp, h1.nodes.same (hf.keep g h1.nodes.lt hg), h1.ne, h1.le, h1.cap⟩, h2⟩
theorem LG.edge_lt {w : World} {pf g n : Nat} {E : Nat → Nat → Prop} {key : Nat → Int} {ed : Int} (h : LG w pf g n E key ed) {v u : Nat} (he : E v u) : v < n ∧ u < n := by
  obtain ⟨cap, σ, F, par, d, rt, _, h2, h3, _⟩ := h
  have key : ∀ x y, Adj par x y → x < n + 1 := by
    rintro x y ⟨hx, hy, e⟩
    rcases e with e | e
    · apply Classical.byContradiction; intro hc
      have := h2.none x (by omega); rw [this] at e; exact hy e.symm
    · have hyv : 0 < y ∧ y < n + 1 := by
        apply Classical.byContradiction; intro hc
        have := h2.none y hc; rw [this] at e; exact hx e.symm
      obtain ⟨p, hp, hyp⟩ := mem_fnodes.1 ((h2.mem y).2 hyv)
      rcases ch_split (h2.ch p hp) (seq_mem.2 hyp) with ⟨B, _, e2⟩ | ⟨A, B, e2⟩
      · rw [← e, e2]; exact h2.up p hp
      · have : par y ∈ p.1.nodes := seq_mem.1 (by rw [e2]; simp)
        rw [← e]; exact (h2.lt hp this).2
  have ha := (h3 v u).1 he
  have h1 := key _ _ ha
  have h2 := key _ _ ha.symm
  omega

@[go_sem] theorem eq_lct (a : Addr) (w : World) : (binOp .eql 25 (.pointer (some a)) (.pointer (some a))).run Try.prog w = .ok (.bool true) w := by
  obtain ⟨j, hj⟩ := Option.isSome_iff_exists.1 (show (Try.prog.info? 65).isSome = true by kernel_rfl)
  exact run_eql_ptr_same w a Try.underlying25 hj

theorem valid_w {w : World} {pf : Nat} (hc : w.cell? ⟨pf, 0, none⟩ = some (.pointer (some ⟨pf, 0, none⟩))) :
    Calls Try.prog 37 #[.pointer (some ⟨pf, 0, none⟩)] w fun e w' => e = .returned (.bool true) ∧ w' = w := by
  go_enter Try.func37, Try.ntmps37
  go_wp2
  go_ret
  exact ⟨rfl, rfl⟩

def inV (n : Nat) (v : Int) : Bool := decide (0 ≤ v) && decide (v < n)

theorem has_w {w : World} {pf g n cap : Nat} {σ : Tbl} {ed : Int} (h : LctAt w pf g (n + 1) cap σ ed) (v : Int) :
    Calls Try.prog 33 #[.pointer (some ⟨pf, 0, none⟩), .int .i64 v] w fun e w' => e = .returned (.bool (inV n v)) ∧ w' = w := by
  have c0 := h.hd.cell 0
  have c1 := h.hd.cell 1
  have hN := h.le
  simp only [List.getElem?_cons_zero, List.getElem?_cons_succ] at c0 c1
  have hV := Lib.hid (valid_w c0)
  by_cases h1 : 0 ≤ v
  · by_cases h2 : v < n
    · have e : inV n v = true := by simp [inV, h1, h2]
      rw [e]; clear e
      go_enter Try.func33, Try.ntmps33
      go_wp2_with (go_at_call 37; refine hV.out.mono ?_; rintro e w' ⟨rfl, rfl⟩)
      go_ret
      exact ⟨rfl, rfl⟩
    · have e : inV n v = false := by simp [inV, h2]
      rw [e]; clear e
      have d2 : decide (v < (n : Int)) = false := decide_eq_false h2
      go_enter Try.func33, Try.ntmps33
      go_wp2_with (go_at_call 37; refine hV.out.mono ?_; rintro e w' ⟨rfl, rfl⟩)
      go_ret
      exact ⟨rfl, rfl⟩
  · have e : inV n v = false := by simp [inV, h1]
    rw [e]; clear e
    go_enter Try.func33, Try.ntmps33
    go_wp2_with (go_at_call 37; refine hV.out.mono ?_; rintro e w' ⟨rfl, rfl⟩)
    go_ret
    exact ⟨rfl, rfl⟩

theorem inV_nat {n : Nat} {v : Int} (h : inV n v = true) : ∃ k : Nat, v = k ∧ k < n := by
  simp only [inV, Bool.and_eq_true, decide_eq_true_eq] at h
  exact ⟨v.toNat, by omega, by omega⟩

/-- The numbers are vertices, and connected. -/
def ConnI (n : Nat) (E : Nat → Nat → Prop) (a b : Int) : Prop := inV n a = true ∧ inV n b = true ∧ Conn E a.toNat b.toNat

theorem top_up {N : Nat} {σ : Tbl} {F : Fst} {par d rt : Nat → Nat} (h : LF N σ F par d rt) {t : BT} {b : Nat} (hm : (t, 0) ∈ F) (hb : t.root = b) (hb0 : b ≠ 0) {a : Nat} (ha : 0 < a) (haN : a < N) (hne : a ≠ b) (hr : rt a = rt b) : (σ a).up ≠ 0 := by
  intro e0
  obtain ⟨p, hp, hap⟩ := mem_fnodes.1 ((h.mem a).2 ⟨ha, haN⟩)
  have hk := (h.rep p hp).kids hap
  have hbt : b ∈ t.nodes := hb ▸ BT.root_mem (by rw [hb]; exact hb0)
  by_cases hpt : b ∈ p.1.nodes
  · -- the same tree: a is no root
    rcases hk.2.2.1 with e | e
    · obtain ⟨R, hR⟩ := mem_split_perm hm
      have h' := h.perm hR
      have hp' := hR.mem_iff.1 hp
      rcases List.mem_cons.1 hp' with e2 | e2
      · rw [e2] at e; exact hne (e.trans hb)
      · exact h'.disj e2 b hbt hpt
    · rw [e0] at e; have := (h.lt hp e).1; omega
  · rcases hk.2.2.1 with e | e
    · have hu : p.2 = 0 := (hk.2.2.2.1 e).symm.trans e0
      have c1 := h.ch _ hm
      have c2 := h.ch _ hp
      rw [hu] at c2
      have z1 := h.seq0 hm
      have z2 := h.seq0 hp
      have sx := seq_mem.2 hbt
      have sy := seq_mem.2 hap
      dsimp only at c1 z1
      cases hs1 : t.seq with
      | nil => rw [hs1] at sx; cases sx
      | cons x s1 =>
        cases hs2 : p.1.seq with
        | nil => rw [hs2] at sy; cases sy
        | cons y s2 =>
          have mx : x ∈ t.nodes := seq_mem.1 (by rw [hs1]; simp)
          have my : y ∈ p.1.nodes := seq_mem.1 (by rw [hs2]; simp)
          rw [hs1] at c1 z1 sx; rw [hs2] at c2 z2 sy
          have ra := ch_rt_head h.rt0 h.rt1 c1 z1 b sx
          have rb := ch_rt_head h.rt0 h.rt1 c2 z2 a sy
          have hxy : x = y := by rw [← ra, ← hr, rb]
          obtain ⟨R, hR⟩ := mem_split_perm hm
          have h' := h.perm hR
          rcases List.mem_cons.1 (hR.mem_iff.1 hp) with e2 | e2
          · rw [e2] at hpt; exact hpt hbt
          · exact h'.disj e2 x mx (hxy ▸ my)
    · rw [e0] at e; have := (h.lt hp e).1; omega

theorem LctAt.drew {w : World} {pf g N cap : Nat} {σ : Tbl} {ed : Int} (h : LctAt w pf g N cap σ ed) (k : Nat) : LctAt (w.drewN k) pf g N cap σ ed := h.eqv (Eqv.drewN w k)

theorem expose_v {w : World} {pf g n cap : Nat} {σ : Tbl} {ed : Int} (h : LctAt w pf g (n + 1) cap σ ed) {par d rt : Nat → Nat} {F : Fst} (hF : LF (n + 1) σ F par d rt) (v : Nat) (hv : v < n) :
    Calls Try.prog 34 #[.pointer (some ⟨pf, 0, none⟩), .int .i64 ((v : Int) + 1)] w fun e w' => ∃ m τ l R, e = .returned (.int .i64 (m : Nat)) ∧ LctAt w' pf g (n + 1) cap τ ed ∧ Exposed (n + 1) σ F par d rt (v + 1) m τ l R ∧ Fr [g] w w' :=
  expose_w h hF (v + 1) (by omega) (by omega)

theorem connected_w {w : World} {pf g n : Nat} {E : Nat → Nat → Prop} {key : Nat → Int} {ed : Int} (h : LG w pf g n E key ed) (a b : Int) :
    Calls Try.prog 15 #[.pointer (some ⟨pf, 0, none⟩), .int .i64 a, .int .i64 b] w fun e w' => ∃ r : Bool, e = .returned (.bool r) ∧ (r = true ↔ ConnI n E a b) ∧ LG w' pf g n E key ed ∧ Fr [g] w w' := by
  have H := Lib.hid h
  obtain ⟨cap, σ, F, par, d, rt, hL, hF, hE, hk⟩ := h
  have HF := Lib.hid hF; clear hF
  have HE := Lib.hid hE; clear hE
  have HK := Lib.hid hk; clear hk
  have hN := hL.le
  cases hva : inV n a with
  | false =>
    have HR := Lib.hid (show ¬ ConnI n E a b from fun e => by rw [e.1] at hva; cases hva)
    have A1 := has_w hL a
    rw [hva] at A1
    have HA := Lib.hid A1; clear A1 hva
    go_enter Try.func15, Try.ntmps15
    go_wp2_with fail
    refine HA.out.mono ?_
    rintro _ w ⟨rfl, rfl⟩
    go_wp2
    go_ret
    exact ⟨false, rfl, by simp [HR.out], H.out, Fr.refl _ _⟩
  | true =>
    have A1 := has_w hL a
    rw [hva] at A1
    have HA := Lib.hid A1; clear A1
    cases hvb : inV n b with
    | false =>
      have HR := Lib.hid (show ¬ ConnI n E a b from fun e => by rw [e.2.1] at hvb; cases hvb)
      have B1 := has_w hL b
      rw [hvb] at B1
      have HB := Lib.hid B1; clear B1 hva hvb
      go_enter Try.func15, Try.ntmps15
      go_wp2_with fail
      refine HA.out.mono ?_
      rintro _ w ⟨rfl, rfl⟩
      go_wp2_with fail
      refine HB.out.mono ?_
      rintro _ w ⟨rfl, rfl⟩
      go_wp2
      go_ret
      exact ⟨false, rfl, by simp [HR.out], H.out, Fr.refl _ _⟩
    | true =>
      have B1 := has_w hL b
      rw [hvb] at B1
      have HB := Lib.hid B1; clear B1
      obtain ⟨v, rfl, hv⟩ := inV_nat hva
      obtain ⟨u, rfl, hu⟩ := inV_nat hvb
      have HC := Lib.hid (show ConnI n E v u ↔ Conn E v u from ⟨fun e => e.2.2, fun e => ⟨hva, hvb, e⟩⟩)
      clear hva hvb
      by_cases hvu : v = u
      · subst hvu
        go_enter Try.func15, Try.ntmps15
        go_wp2_with fail
        refine HA.out.mono ?_
        rintro _ w ⟨rfl, rfl⟩
        go_wp2_with fail
        refine HB.out.mono ?_
        rintro _ w ⟨rfl, rfl⟩
        go_wp2
        go_ret
        refine ⟨true, rfl, ?_, H.out, Fr.refl _ _⟩
        simp only [true_iff]; exact HC.out.2 (Conn.refl E v)
      · have hb : ((v : Int) == (u : Int)) = false := beq_eq_false_iff_ne.2 (by omega)
        have Hne := Lib.hid hvu; clear hvu
        go_enter Try.func15, Try.ntmps15
        go_wp2_with fail
        refine HA.out.mono ?_
        rintro _ w ⟨rfl, rfl⟩
        go_wp2_with fail
        refine HB.out.mono ?_
        rintro _ w ⟨rfl, rfl⟩
        go_wp2_with fail
        refine (expose_v hL HF.out v (by omega)).mono ?_
        rintro _ w2 ⟨m1, τ1, l1, R1, rfl, hL1, hE1, hF1⟩
        have HE1 := Lib.hid hE1; clear hE1
        go_wp2_with fail
        refine (expose_v hL1 HE1.out.lf u (by omega)).mono ?_
        rintro _ w3 ⟨m2, τ2, l2, R2, rfl, hL2, hE2, hF2⟩
        have HE2 := Lib.hid hE2; clear hE2
        have a2 := hL2.nodes.c2 (v + 1) (by omega)
        have d1 := hL2.hd.cell 1
        simp only [List.getElem?_cons_zero, List.getElem?_cons_succ] at d1
        have hv2 : ((v + 1 : Nat) : Int) < ((n + 1 : Nat) : Int) := by omega
        have hres : ((τ2 (v + 1)).up ≠ 0) ↔ Conn E v u := by
          rw [conn_rt HF.out.rtd HE.out]
          constructor
          · intro e
            apply Classical.byContradiction
            intro hc
            have h1 := HE2.out.frame (v + 1) hc
            rw [h1, (HE1.out.lf.rep _ (List.mem_cons_self)).1.2.1] at e
            exact e rfl
          · intro e
            exact top_up HE2.out.lf (List.mem_cons_self) rfl (by simp [BT.root]) (by omega) (by omega) (by simp only [BT.root]; have := Hne.out; omega) e
        have Hres := Lib.hid hres; clear hres
        have hFr : Fr [g] w w3 := hF1.then hF2
        have hLG : LG w3 pf g n E key ed := ⟨cap, τ2, _, par, d, rt, hL2, HE2.out.lf, HE.out, fun x hx => by rw [HE2.out.key, HE1.out.key]; exact HK.out x hx⟩
        have HLG := Lib.hid hLG; clear hLG
        by_cases hup : (τ2 (v + 1)).up = 0
        · rw [hup] at a2
          have Hup := Lib.hid hup; clear hup
          go_wp2
          go_ret
          exact ⟨false, rfl, by simp only [Bool.false_eq_true, false_iff]; exact fun e => Hres.out.2 (HC.out.1 e) Hup.out, HLG.out, hFr⟩
        · have hb0 : (((τ2 (v + 1)).up : Int) != 0) = true := bne_iff_ne.2 (by omega)
          have Hup := Lib.hid hup; clear hup
          go_wp2
          go_ret
          exact ⟨true, rfl, by simp only [true_iff]; exact HC.out.2 (Hres.out.1 Hup.out), HLG.out, hFr⟩

end Go.Proofs.Ytoppjjgecgbbkaa
