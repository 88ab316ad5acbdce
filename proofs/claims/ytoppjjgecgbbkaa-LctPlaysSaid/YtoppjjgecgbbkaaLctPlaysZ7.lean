/- lct: New. -/
import Derived.Test.YtoppjjgecgbbkaaLctPlaysZ5
import Derived.Test.YtoppjjgecgbbkaaLctPlaysZ6
/- lct: lead, path, has, check, Connected, Size, Trees, Dist, Min, Meet. -/
namespace Go.Proofs.Ytoppjjgecgbbkaa
open Go.RowKit
set_option maxRecDepth 10000
set_option maxHeartbeats 800000

theorem lead_w {w : World} {pf g N cap : Nat} {σ : Tbl} {ed : Int} (h : LctAt w pf g N cap σ ed) {par d rt : Nat → Nat} {F : Fst} (hF : LF N σ F par d rt) (i : Nat) (hi0 : 0 < i) (hi : i < N) :
    Calls Try.prog 36 #[.pointer (some ⟨pf, 0, none⟩), .int .i64 i] w fun e w' => e = .returned (.tuple #[]) ∧ ∃ τ l R par' d' rt', LctAt w' pf g N cap τ ed ∧ LF N τ ((.node true l i .nil, 0) :: R) par' d' rt' ∧ (∀ x, (τ x).key = (σ x).key) ∧
      (∀ x y, Adj par' x y ↔ Adj par x y) ∧ (∀ x y, rt' x = rt' y ↔ rt x = rt y) ∧ rt' i = i ∧ Fr [g] w w' := by
  have hN := h.le
  have hi2 : (i : Int) < N := by omega
  go_enter Try.func36, Try.ntmps36
  go_wp2_with fail
  refine (expose_w h hF i hi0 hi).mono ?_
  rintro _ w2 ⟨m, τ, l, R, rfl, hL2, hE, hF2⟩
  obtain ⟨par', d', rt', q1, q2, q3, q4, q5⟩ := hE.lf.lead
  have HE := Lib.hid hE.key
  have Q := Lib.hid (And.intro q1 (And.intro q2 (And.intro q3 q4)))
  clear q1 q2 q3 q4 q5 hE h hF
  have d1 := hL2.hd.cell 1
  simp only [List.getElem?_cons_zero, List.getElem?_cons_succ] at d1
  have a3 := hL2.nodes.c3 i hi
  have hfz := hL2.nodes.frozen
  obtain ⟨hL3, hF3⟩ := hL2.st3 hF2 hi true
  go_wp2
  go_end0
  refine ⟨rfl, _, l, R, par', d', rt', hL3, Q.out.1, fun x => ?_, Q.out.2.1, Q.out.2.2.1, Q.out.2.2.2, hF3⟩
  rw [← HE.out x]
  by_cases e : x = i
  · subst e; rw [upd_same]
  · rw [upd_other e]

/-- What path makes of the forest. -/
structure Pathed (N : Nat) (σ : Tbl) (par rt : Nat → Nat) (i j : Nat) (τ : Tbl) (l : BT) (R : Fst) (par' d' rt' : Nat → Nat) : Prop where
  lf : LF N τ ((.node false l j .nil, 0) :: R) par' d' rt'
  key : ∀ x, (τ x).key = (σ x).key
  adj : ∀ x y, Adj par' x y ↔ Adj par x y
  rts : ∀ x y, rt' x = rt' y ↔ rt x = rt y
  rti : rt' i = i
  path : rt i = rt j → IsPath (Adj par) i j (l.seq ++ [j])

theorem path_w {w : World} {pf g N cap : Nat} {σ : Tbl} {ed : Int} (h : LctAt w pf g N cap σ ed) {par d rt : Nat → Nat} {F : Fst} (hF : LF N σ F par d rt) (i j : Nat) (hi0 : 0 < i) (hi : i < N) (hj0 : 0 < j) (hj : j < N) :
    Calls Try.prog 38 #[.pointer (some ⟨pf, 0, none⟩), .int .i64 i, .int .i64 j] w fun e w' => e = .returned (.tuple #[]) ∧ ∃ τ l R par' d' rt', LctAt w' pf g N cap τ ed ∧ Pathed N σ par rt i j τ l R par' d' rt' ∧ Fr [g] w w' := by
  go_enter Try.func38, Try.ntmps38
  go_wp2_with fail
  refine (lead_w h hF i hi0 hi).mono ?_
  rintro _ w2 ⟨rfl, τ, l, R, par', d', rt', hL2, hF', hkey, hadj, hrt, hri, hFr2⟩
  have HF' := Lib.hid hF'; clear hF'
  have Q := Lib.hid (And.intro hkey (And.intro hadj (And.intro hrt hri)))
  clear hkey hadj hrt hri h hF
  go_wp2_with fail
  refine (expose_w hL2 HF'.out j hj0 hj).mono ?_
  rintro _ w3 ⟨m, τ3, l3, R3, rfl, hL3, hE, hFr3⟩
  have HE := Lib.hid hE; clear hE
  go_wp2
  go_end0
  obtain ⟨hkey, hadj, hrt, hri⟩ := Q.out
  have hE := HE.out
  refine ⟨rfl, τ3, l3, R3, par', d', rt', hL3, ⟨hE.lf, fun x => (hE.key x).trans (hkey x), hadj, hrt, hri, fun e => ?_⟩, hFr2.then hFr3⟩
  obtain ⟨hn, hz, hc⟩ := hE.lf.top_seq
  have hjm : j ∈ l3.seq ++ [j] := by simp
  have hl : (l3.seq ++ [j]).getLast? = some j := last_snoc _ _
  generalize l3.seq ++ [j] = s at *
  cases s with
  | nil => cases hjm
  | cons y s =>
    have hy : y = i := by
      rw [← ch_rt_head hE.lf.rt0 hE.lf.rt1 hc hz j hjm, (hrt j i).2 e.symm, hri]
    subst hy
    have : IsPath (Adj par') y j (y :: s) := ⟨s, rfl, ch_wk (hz y (by simp)) (fun x hx => hz x (by simp [hx])) hc.2, hn, hl⟩
    exact this.mono (fun x y => (hadj x y).1)

/-- A forest of n vertices with the edges E. -/
def LG (w : World) (pf g n : Nat) (E : Nat → Nat → Prop) (key : Nat → Int) (ed : Int) : Prop :=
  ∃ cap σ F par d rt, LctAt w pf g (n + 1) cap σ ed ∧ LF (n + 1) σ F par d rt ∧ (∀ v u, E v u ↔ Adj par (v + 1) (u + 1)) ∧ ∀ v, v < n → (σ (v + 1)).key = key v

theorem LG.frs {w : World} {pf g n : Nat} {E : Nat → Nat → Prop} {key : Nat → Int} {ed : Int} (h : LG w pf g n E key ed) : Frs E := by
  obtain ⟨cap, σ, F, par, d, rt, _, h2, h3, _⟩ := h
  exact ⟨par, d, rt, h2.rtd, h3⟩
theorem LG.lts {w : World} {pf g n : Nat} {E : Nat → Nat → Prop} {key : Nat → Int} {ed : Int} (h : LG w pf g n E key ed) : pf < w.heap.size ∧ g < w.heap.size ∧ n ≤ 65536 := by
  obtain ⟨cap, σ, F, par, d, rt, h1, _⟩ := h
  have := h1.le
  exact ⟨h1.lts.1, h1.lts.2, by omega⟩
theorem LG.fr {w w' : World} {pf g n : Nat} {E : Nat → Nat → Prop} {key : Nat → Int} {ed : Int} {S : List Nat} (h : LG w pf g n E key ed) (hf : Fr S w w') (hp : pf ∉ S) (hg : g ∉ S) : LG w' pf g n E key ed := by
  obtain ⟨cap, σ, F, par, d, rt, h1, h2⟩ := h
  exact ⟨cap, σ, F, par, d, rt, ⟨hf.blk h1.hd hp, h1.nodes.same (hf.keep g h1.nodes.lt hg), h1.ne, h1.le, h1.cap⟩, h2⟩
theorem LG.edge_lt {w : World} {pf g n : Nat} {E : Nat → Nat → Prop} {key : Nat → Int} {ed : Int} (h : LG w pf g n E key ed) {v u : Nat} (he : E v u) : v < n ∧ u < n := by
  obtain ⟨cap, σ, F, par, d, rt, _, h2, h3, _⟩ := h
  have key : ∀ x y, Adj par x y → x < n + 1 := by
    rintro x y ⟨hx, hy, e⟩
    rcases e with e | e
    · apply Classical.byContradiction; intro hc
      have := h2.none x (by omega); rw [this] at e; exact hy e.symm
    · have hyv : 0 < y ∧ y < n + 1 := by
        apply Classical.byContradiction; intro hc
        have := h2.none y hc; rw [this] at e; exact hx e.symm
      obtain ⟨p, hp, hyp⟩ := mem_fnodes.1 ((h2.mem y).2 hyv)
      rcases ch_split (h2.ch p hp) (seq_mem.2 hyp) with ⟨B, _, e2⟩ | ⟨A, B, e2⟩
      · rw [← e, e2]; exact h2.up p hp
      · have : par y ∈ p.1.nodes := seq_mem.1 (by rw [e2]; simp)
        rw [← e]; exact (h2.lt hp this).2
  have ha := (h3 v u).1 he
  have h1 := key _ _ ha
  have h2 := key _ _ ha.symm
  omega

@[go_sem] theorem eq_lct (a : Addr) (w : World) : (binOp .eql 25 (.pointer (some a)) (.pointer (some a))).run Try.prog w = .ok (.bool true) w := by
  obtain ⟨j, hj⟩ := Option.isSome_iff_exists.1 (show (Try.prog.info? 65).isSome = true by kernel_rfl)
  exact run_eql_ptr_same w a Try.underlying25 hj

theorem valid_w {w : World} {pf : Nat} (hc : w.cell? ⟨pf, 0, none⟩ = some (.pointer (some ⟨pf, 0, none⟩))) :
    Calls Try.prog 37 #[.pointer (some ⟨pf, 0, none⟩)] w fun e w' => e = .returned (.bool true) ∧ w' = w := by
  go_enter Try.func37, Try.ntmps37
  go_wp2
  go_ret
  exact ⟨rfl, rfl⟩

def inV (n : Nat) (v : Int) : Bool := decide (0 ≤ v) && decide (v < n)

theorem has_w {w : World} {pf g n cap : Nat} {σ : Tbl} {ed : Int} (h : LctAt w pf g (n + 1) cap σ ed) (v : Int) :
    Calls Try.prog 33 #[.pointer (some ⟨pf, 0, none⟩), .int .i64 v] w fun e w' => e = .returned (.bool (inV n v)) ∧ w' = w := by
  have c0 := h.hd.cell 0
  have c1 := h.hd.cell 1
  have hN := h.le
  simp only [List.getElem?_cons_zero, List.getElem?_cons_succ] at c0 c1
  have hV := Lib.hid (valid_w c0)
  by_cases h1 : 0 ≤ v
  · by_cases h2 : v < n
    · have e : inV n v = true := by simp [inV, h1, h2]
      rw [e]; clear e
      go_enter Try.func33, Try.ntmps33
      go_wp2_with (go_at_call 37; refine hV.out.mono ?_; rintro e w' ⟨rfl, rfl⟩)
      go_ret
      exact ⟨rfl, rfl⟩
    · have e : inV n v = false := by simp [inV, h2]
      rw [e]; clear e
      have d2 : decide (v < (n : Int)) = false := decide_eq_false h2
      go_enter Try.func33, Try.ntmps33
      go_wp2_with (go_at_call 37; refine hV.out.mono ?_; rintro e w' ⟨rfl, rfl⟩)
      go_ret
      exact ⟨rfl, rfl⟩
  · have e : inV n v = false := by simp [inV, h1]
    rw [e]; clear e
    go_enter Try.func33, Try.ntmps33
    go_wp2_with (go_at_call 37; refine hV.out.mono ?_; rintro e w' ⟨rfl, rfl⟩)
    go_ret
    exact ⟨rfl, rfl⟩

theorem inV_nat {n : Nat} {v : Int} (h : inV n v = true) : ∃ k : Nat, v = k ∧ k < n := by
  simp only [inV, Bool.and_eq_true, decide_eq_true_eq] at h
  exact ⟨v.toNat, by omega, by omega⟩

/-- The numbers are vertices, and connected. -/
def ConnI (n : Nat) (E : Nat → Nat → Prop) (a b : Int) : Prop := inV n a = true ∧ inV n b = true ∧ Conn E a.toNat b.toNat

theorem top_up {N : Nat} {σ : Tbl} {F : Fst} {par d rt : Nat → Nat} (h : LF N σ F par d rt) {t : BT} {b : Nat} (hm : (t, 0) ∈ F) (hb : t.root = b) (hb0 : b ≠ 0) {a : Nat} (ha : 0 < a) (haN : a < N) (hne : a ≠ b) (hr : rt a = rt b) : (σ a).up ≠ 0 := by
  intro e0
  obtain ⟨p, hp, hap⟩ := mem_fnodes.1 ((h.mem a).2 ⟨ha, haN⟩)
  have hk := (h.rep p hp).kids hap
  have hbt : b ∈ t.nodes := hb ▸ BT.root_mem (by rw [hb]; exact hb0)
  by_cases hpt : b ∈ p.1.nodes
  · -- the same tree: a is no root
    rcases hk.2.2.1 with e | e
    · obtain ⟨R, hR⟩ := mem_split_perm hm
      have h' := h.perm hR
      have hp' := hR.mem_iff.1 hp
      rcases List.mem_cons.1 hp' with e2 | e2
      · rw [e2] at e; exact hne (e.trans hb)
      · exact h'.disj e2 b hbt hpt
    · rw [e0] at e; have := (h.lt hp e).1; omega
  · rcases hk.2.2.1 with e | e
    · have hu : p.2 = 0 := (hk.2.2.2.1 e).symm.trans e0
      have c1 := h.ch _ hm
      have c2 := h.ch _ hp
      rw [hu] at c2
      have z1 := h.seq0 hm
      have z2 := h.seq0 hp
      have sx := seq_mem.2 hbt
      have sy := seq_mem.2 hap
      dsimp only at c1 z1
      cases hs1 : t.seq with
      | nil => rw [hs1] at sx; cases sx
      | cons x s1 =>
        cases hs2 : p.1.seq with
        | nil => rw [hs2] at sy; cases sy
        | cons y s2 =>
          have mx : x ∈ t.nodes := seq_mem.1 (by rw [hs1]; simp)
          have my : y ∈ p.1.nodes := seq_mem.1 (by rw [hs2]; simp)
          rw [hs1] at c1 z1 sx; rw [hs2] at c2 z2 sy
          have ra := ch_rt_head h.rt0 h.rt1 c1 z1 b sx
          have rb := ch_rt_head h.rt0 h.rt1 c2 z2 a sy
          have hxy : x = y := by rw [← ra, ← hr, rb]
          obtain ⟨R, hR⟩ := mem_split_perm hm
          have h' := h.perm hR
          rcases List.mem_cons.1 (hR.mem_iff.1 hp) with e2 | e2
          · rw [e2] at hpt; exact hpt hbt
          · exact h'.disj e2 x mx (hxy ▸ my)
    · rw [e0] at e; have := (h.lt hp e).1; omega

theorem LctAt.drew {w : World} {pf g N cap : Nat} {σ : Tbl} {ed : Int} (h : LctAt w pf g N cap σ ed) (k : Nat) : LctAt (w.drewN k) pf g N cap σ ed := h.eqv (Eqv.drewN w k)

theorem expose_v {w : World} {pf g n cap : Nat} {σ : Tbl} {ed : Int} (h : LctAt w pf g (n + 1) cap σ ed) {par d rt : Nat → Nat} {F : Fst} (hF : LF (n + 1) σ F par d rt) (v : Nat) (hv : v < n) :
    Calls Try.prog 34 #[.pointer (some ⟨pf, 0, none⟩), .int .i64 ((v : Int) + 1)] w fun e w' => ∃ m τ l R, e = .returned (.int .i64 (m : Nat)) ∧ LctAt w' pf g (n + 1) cap τ ed ∧ Exposed (n + 1) σ F par d rt (v + 1) m τ l R ∧ Fr [g] w w' :=
  expose_w h hF (v + 1) (by omega) (by omega)

theorem connected_w {w : World} {pf g n : Nat} {E : Nat → Nat → Prop} {key : Nat → Int} {ed : Int} (h : LG w pf g n E key ed) (a b : Int) :
    Calls Try.prog 15 #[.pointer (some ⟨pf, 0, none⟩), .int .i64 a, .int .i64 b] w fun e w' => ∃ r : Bool, e = .returned (.bool r) ∧ (r = true ↔ ConnI n E a b) ∧ LG w' pf g n E key ed ∧ Fr [g] w w' := by
  have H := Lib.hid h
  obtain ⟨cap, σ, F, par, d, rt, hL, hF, hE, hk⟩ := h
  have HF := Lib.hid hF; clear hF
  have HE := Lib.hid hE; clear hE
  have HK := Lib.hid hk; clear hk
  have hN := hL.le
  cases hva : inV n a with
  | false =>
    have HR := Lib.hid (show ¬ ConnI n E a b from fun e => by rw [e.1] at hva; cases hva)
    have A1 := has_w hL a
    rw [hva] at A1
    have HA := Lib.hid A1; clear A1 hva
    go_enter Try.func15, Try.ntmps15
    go_wp2_with fail
    refine HA.out.mono ?_
    rintro _ w ⟨rfl, rfl⟩
    go_wp2
    go_ret
    exact ⟨false, rfl, by simp [HR.out], H.out, Fr.refl _ _⟩
  | true =>
    have A1 := has_w hL a
    rw [hva] at A1
    have HA := Lib.hid A1; clear A1
    cases hvb : inV n b with
    | false =>
      have HR := Lib.hid (show ¬ ConnI n E a b from fun e => by rw [e.2.1] at hvb; cases hvb)
      have B1 := has_w hL b
      rw [hvb] at B1
      have HB := Lib.hid B1; clear B1 hva hvb
      go_enter Try.func15, Try.ntmps15
      go_wp2_with fail
      refine HA.out.mono ?_
      rintro _ w ⟨rfl, rfl⟩
      go_wp2_with fail
      refine HB.out.mono ?_
      rintro _ w ⟨rfl, rfl⟩
      go_wp2
      go_ret
      exact ⟨false, rfl, by simp [HR.out], H.out, Fr.refl _ _⟩
    | true =>
      have B1 := has_w hL b
      rw [hvb] at B1
      have HB := Lib.hid B1; clear B1
      obtain ⟨v, rfl, hv⟩ := inV_nat hva
      obtain ⟨u, rfl, hu⟩ := inV_nat hvb
      have HC := Lib.hid (show ConnI n E v u ↔ Conn E v u from ⟨fun e => e.2.2, fun e => ⟨hva, hvb, e⟩⟩)
      clear hva hvb
      by_cases hvu : v = u
      · subst hvu
        go_enter Try.func15, Try.ntmps15
        go_wp2_with fail
        refine HA.out.mono ?_
        rintro _ w ⟨rfl, rfl⟩
        go_wp2_with fail
        refine HB.out.mono ?_
        rintro _ w ⟨rfl, rfl⟩
        go_wp2
        go_ret
        refine ⟨true, rfl, ?_, H.out, Fr.refl _ _⟩
        simp only [true_iff]; exact HC.out.2 (Conn.refl E v)
      · have hb : ((v : Int) == (u : Int)) = false := beq_eq_false_iff_ne.2 (by omega)
        have Hne := Lib.hid hvu; clear hvu
        go_enter Try.func15, Try.ntmps15
        go_wp2_with fail
        refine HA.out.mono ?_
        rintro _ w ⟨rfl, rfl⟩
        go_wp2_with fail
        refine HB.out.mono ?_
        rintro _ w ⟨rfl, rfl⟩
        go_wp2_with fail
        refine (expose_v hL HF.out v (by omega)).mono ?_
        rintro _ w2 ⟨m1, τ1, l1, R1, rfl, hL1, hE1, hF1⟩
        have HE1 := Lib.hid hE1; clear hE1
        go_wp2_with fail
        refine (expose_v hL1 HE1.out.lf u (by omega)).mono ?_
        rintro _ w3 ⟨m2, τ2, l2, R2, rfl, hL2, hE2, hF2⟩
        have HE2 := Lib.hid hE2; clear hE2
        have a2 := hL2.nodes.c2 (v + 1) (by omega)
        have d1 := hL2.hd.cell 1
        simp only [List.getElem?_cons_zero, List.getElem?_cons_succ] at d1
        have hv2 : ((v + 1 : Nat) : Int) < ((n + 1 : Nat) : Int) := by omega
        have hres : ((τ2 (v + 1)).up ≠ 0) ↔ Conn E v u := by
          rw [conn_rt HF.out.rtd HE.out]
          constructor
          · intro e
            apply Classical.byContradiction
            intro hc
            have h1 := HE2.out.frame (v + 1) hc
            rw [h1, (HE1.out.lf.rep _ (List.mem_cons_self)).1.2.1] at e
            exact e rfl
          · intro e
            exact top_up HE2.out.lf (List.mem_cons_self) rfl (by simp [BT.root]) (by omega) (by omega) (by simp only [BT.root]; have := Hne.out; omega) e
        have Hres := Lib.hid hres; clear hres
        have hFr : Fr [g] w w3 := hF1.then hF2
        have hLG : LG w3 pf g n E key ed := ⟨cap, τ2, _, par, d, rt, hL2, HE2.out.lf, HE.out, fun x hx => by rw [HE2.out.key, HE1.out.key]; exact HK.out x hx⟩
        have HLG := Lib.hid hLG; clear hLG
        by_cases hup : (τ2 (v + 1)).up = 0
        · rw [hup] at a2
          have Hup := Lib.hid hup; clear hup
          go_wp2
          go_ret
          exact ⟨false, rfl, by simp only [Bool.false_eq_true, false_iff]; exact fun e => Hres.out.2 (HC.out.1 e) Hup.out, HLG.out, hFr⟩
        · have hb0 : (((τ2 (v + 1)).up : Int) != 0) = true := bne_iff_ne.2 (by omega)
          have Hup := Lib.hid hup; clear hup
          go_wp2
          go_ret
          exact ⟨true, rfl, by simp only [true_iff]; exact HC.out.2 (Hres.out.1 Hup.out), HLG.out, hFr⟩

end Go.Proofs.Ytoppjjgecgbbkaa

/- lct: how many trees a forest has, and how an edge changes that. -/
namespace Go.Proofs.Ytoppjjgecgbbkaa
open Go.RowKit Classical

/-- The vertex is the first one of its tree. -/
def IsFirst (E : Nat → Nat → Prop) (v : Nat) : Prop := ∀ u, u < v → ¬ Conn E v u
noncomputable def nc (n : Nat) (E : Nat → Nat → Prop) : Nat := ((List.range n).filter fun v => decide (IsFirst E v)).length
noncomputable def csize (n : Nat) (E : Nat → Nat → Prop) (v : Nat) : Nat := ((List.range n).filter fun u => decide (Conn E v u)).length

theorem nc_le (n : Nat) (E : Nat → Nat → Prop) : nc n E ≤ n := by
  unfold nc
  have := List.length_filter_le (fun v => decide (IsFirst E v)) (List.range n)
  simpa using this
theorem csize_le (n : Nat) (E : Nat → Nat → Prop) (v : Nat) : csize n E v ≤ n := by
  unfold csize
  have := List.length_filter_le (fun u => decide (Conn E v u)) (List.range n)
  simpa using this
theorem conn_congr {E E' : Nat → Nat → Prop} (h : ∀ v u, E v u ↔ E' v u) (a b : Nat) : Conn E a b ↔ Conn E' a b :=
  ⟨fun ⟨p, hp⟩ => ⟨p, hp.mono (fun x y => (h x y).1)⟩, fun ⟨p, hp⟩ => ⟨p, hp.mono (fun x y => (h x y).2)⟩⟩
theorem E_ext {E E' : Nat → Nat → Prop} (h : ∀ v u, E v u ↔ E' v u) : E = E' := funext fun v => funext fun u => propext (h v u)

theorem filter_drop_one {P P' : Nat → Bool} {m : Nat} : ∀ {l : List Nat}, l.Nodup → m ∈ l → P m = true → P' m = false → (∀ x ∈ l, x ≠ m → P' x = P x) → (l.filter P').length + 1 = (l.filter P).length
  | y :: l, hn, hm, h1, h2, h3 => by
    have hn' := List.nodup_cons.1 hn
    by_cases e : y = m
    · subst e
      have : l.filter P' = l.filter P := List.filter_congr (fun x hx => h3 x (by simp [hx]) (by rintro rfl; exact hn'.1 hx))
      simp [h1, h2, this]
    · have hml : m ∈ l := (List.mem_cons.1 hm).resolve_left (fun h => e h.symm)
      have ih := filter_drop_one hn'.2 hml h1 h2 (fun x hx => h3 x (by simp [hx]))
      have hy := h3 y (by simp) e
      cases hp : P y with
      | true => simp [hy, hp, ih]
      | false => simp [hy, hp, ih]

/-- The edges with one more. -/
def addE (E : Nat → Nat → Prop) (a b : Nat) : Nat → Nat → Prop := fun v u => E v u ∨ (v = a ∧ u = b) ∨ (v = b ∧ u = a)
def delE (E : Nat → Nat → Prop) (a b : Nat) : Nat → Nat → Prop := fun v u => E v u ∧ ¬ (v = a ∧ u = b) ∧ ¬ (v = b ∧ u = a)

section
variable {E : Nat → Nat → Prop} {a b n : Nat}
theorem conn_of_edge {v u : Nat} (h : Frs E) (he : E v u) : Conn E v u := ⟨_, h.edge he⟩
theorem conn_add (h : Frs E) (h' : Frs (addE E a b)) (x y : Nat) : Conn (addE E a b) x y ↔ Conn E x y ∨ (Conn E x a ∧ Conn E b y) ∨ (Conn E x b ∧ Conn E a y) := by
  constructor
  · rintro ⟨p, l, rfl, hw, _, hl⟩
    have key : ∀ {l : List Nat} {x : Nat}, Wk (addE E a b) x l → ∀ y ∈ x :: l, Conn E x y ∨ (Conn E x a ∧ Conn E b y) ∨ (Conn E x b ∧ Conn E a y) := by
      intro l
      induction l with
      | nil => intro x _ y hy; simp at hy; subst hy; exact .inl (Conn.refl E y)
      | cons z l ih =>
        intro x ⟨h1, h2⟩ y hy
        rcases List.mem_cons.1 hy with rfl | hy
        · exact .inl (Conn.refl E y)
        have hz := ih h2 y hy
        rcases h1 with h1 | ⟨rfl, rfl⟩ | ⟨rfl, rfl⟩
        · have hxz := conn_of_edge h h1
          rcases hz with hz | ⟨hz1, hz2⟩ | ⟨hz1, hz2⟩
          · exact .inl (h.ctrans hxz hz)
          · exact .inr (.inl ⟨h.ctrans hxz hz1, hz2⟩)
          · exact .inr (.inr ⟨h.ctrans hxz hz1, hz2⟩)
        · rcases hz with hz | ⟨hz1, hz2⟩ | ⟨hz1, hz2⟩
          · exact .inr (.inl ⟨Conn.refl E x, hz⟩)
          · exact .inr (.inl ⟨Conn.refl E x, hz2⟩)
          · exact .inl hz2
        · rcases hz with hz | ⟨hz1, hz2⟩ | ⟨hz1, hz2⟩
          · exact .inr (.inr ⟨Conn.refl E x, hz⟩)
          · exact .inl hz2
          · exact .inr (.inr ⟨Conn.refl E x, hz2⟩)
    exact key hw y (List.mem_of_getLast? hl)
  · have hm : ∀ {x y}, Conn E x y → Conn (addE E a b) x y := fun ⟨p, hp⟩ => ⟨p, hp.mono (fun _ _ e => .inl e)⟩
    have hab : Conn (addE E a b) a b := conn_of_edge h' (.inr (.inl ⟨rfl, rfl⟩))
    rintro (e | ⟨e1, e2⟩ | ⟨e1, e2⟩)
    · exact hm e
    · exact h'.ctrans (hm e1) (h'.ctrans hab (hm e2))
    · exact h'.ctrans (hm e1) (h'.ctrans (h'.csymm hab) (hm e2))

theorem least_ex {P : Nat → Prop} {n : Nat} (h : P n) : ∃ m, m ≤ n ∧ P m ∧ ∀ k, k < m → ¬ P k := by
  induction n using Nat.strongRecOn with
  | _ n ih =>
    by_cases hm : ∃ m, m < n ∧ P m
    · obtain ⟨m, hlt, hp⟩ := hm
      obtain ⟨m', h1, h2, h3⟩ := ih m hlt hp
      exact ⟨m', by omega, h2, h3⟩
    · exact ⟨n, Nat.le_refl _, h, fun k hk hp => hm ⟨k, hk, hp⟩⟩

theorem nc_add (h : Frs E) (h' : Frs (addE E a b)) (hab : ¬ Conn E a b) (ha : a < n) (hb : b < n) : nc n (addE E a b) + 1 = nc n E := by
  obtain ⟨fa, ha1, ha2, ha3⟩ := least_ex (P := fun k => Conn E a k) (Conn.refl E a)
  obtain ⟨fb, hb1, hb2, hb3⟩ := least_ex (P := fun k => Conn E b k) (Conn.refl E b)
  have hne : fa ≠ fb := by rintro rfl; exact hab (h.ctrans ha2 (h.csymm hb2))
  have hfa : IsFirst E fa := fun k hk hc => ha3 k hk (h.ctrans ha2 hc)
  have hfb : IsFirst E fb := fun k hk hc => hb3 k hk (h.ctrans hb2 hc)
  -- of the two first vertices the later one is no first vertex any more
  have key : ∀ {a b fa fb : Nat}, fa < fb → Conn E a fa → Conn E b fb → IsFirst E fa → IsFirst E fb → ¬ Conn E a b → Frs (addE E a b) → b < n → fb ≤ b → (∀ k, k < fa → ¬ Conn E a k) → nc n (addE E a b) + 1 = nc n E := by
    intro a b fa fb hlt hca hcb hfa hfb hab h' hbn hfbb hmin
    have hbc := conn_add (a := a) (b := b) h h'
    unfold nc
    refine filter_drop_one (m := fb) List.nodup_range (List.mem_range.2 (by omega)) (decide_eq_true hfb) (decide_eq_false ?_) ?_
    · intro hf
      exact hf fa hlt ((hbc fb fa).2 (.inr (.inr ⟨h.csymm hcb, hca⟩)))
    · intro x _ hx
      refine decide_eq_decide.2 ⟨fun hf u hu hc => hf u hu ((hbc x u).2 (.inl hc)), fun hf u hu hc => ?_⟩
      rcases (hbc x u).1 hc with e | ⟨e1, e2⟩ | ⟨e1, e2⟩
      · exact hf u hu e
      · -- x is with a, u with b: then x = fa, and fb ≤ u
        have hxfa : Conn E x fa := h.ctrans e1 hca
        have h1 : x = fa := by
          rcases Nat.lt_trichotomy x fa with q | q | q
          · exact absurd (h.csymm hxfa) (hfa x q)
          · exact q
          · exact absurd hxfa (hf fa q)
        have : ¬ u < fb := fun q => hfb u q (h.ctrans (h.csymm hcb) e2)
        omega
      · have hxfb : Conn E x fb := h.ctrans e1 hcb
        rcases Nat.lt_trichotomy x fb with q | q | q
        · exact absurd (h.csymm hxfb) (hfb x q)
        · exact absurd q hx
        · exact absurd hxfb (hf fb q)
  rcases Nat.lt_or_gt_of_ne hne with q | q
  · exact key q ha2 hb2 hfa hfb hab h' hb hb1 ha3
  · have e : addE E a b = addE E b a := E_ext (fun v u => by unfold addE; constructor <;> (rintro (e | e | e); exact .inl e; exact .inr (.inr e); exact .inr (.inl e)))
    rw [e]
    exact key q hb2 ha2 hfb hfa (fun e => hab (h.csymm e)) (by rw [← e]; exact h') ha ha1 hb3

theorem add_del (h : Frs E) (he : E a b) : addE (delE E a b) a b = E := by
  refine E_ext (fun v u => ?_)
  unfold addE delE
  constructor
  · rintro (e | ⟨rfl, rfl⟩ | ⟨rfl, rfl⟩)
    · exact e.1
    · exact he
    · exact h.symm he
  · intro e
    by_cases h1 : v = a ∧ u = b
    · exact .inr (.inl h1)
    · by_cases h2 : v = b ∧ u = a
      · exact .inr (.inr h2)
      · exact .inl ⟨e, h1, h2⟩
theorem del_sep (h : Frs E) (he : E a b) : ¬ Conn (delE E a b) a b := by
  rintro ⟨p, hp⟩
  have h1 := hp.mono (E' := E) (fun x y e => e.1)
  have h2 := h.unique h1 (h.edge he)
  subst h2
  obtain ⟨l, e, hw, _⟩ := hp
  simp at e
  subst e
  exact hw.1.2.1 ⟨rfl, rfl⟩
theorem nc_del (h : Frs E) (h' : Frs (delE E a b)) (he : E a b) (ha : a < n) (hb : b < n) : nc n (delE E a b) = nc n E + 1 := by
  have e := add_del h he
  have := nc_add (n := n) h' (by rw [e]; exact h) (del_sep h he) ha hb
  rw [e] at this; exact this.symm
end

theorem nc_none (n : Nat) : nc n (fun _ _ => False) = n := by
  unfold nc
  rw [List.filter_eq_self.2]
  · simp
  · intro v _
    refine decide_eq_true (fun u hu ⟨p, l, e, hw, _, hl⟩ => ?_)
    cases l with
    | nil => subst e; simp at hl; omega
    | cons x l => exact hw.1

end Go.Proofs.Ytoppjjgecgbbkaa

/- lct: Size, Trees, Dist. -/
namespace Go.Proofs.Ytoppjjgecgbbkaa
open Go.RowKit
set_option maxRecDepth 10000
set_option maxHeartbeats 800000

theorem path_v {w : World} {pf g n cap : Nat} {σ : Tbl} {ed : Int} (h : LctAt w pf g (n + 1) cap σ ed) {par d rt : Nat → Nat} {F : Fst} (hF : LF (n + 1) σ F par d rt) (v u : Nat) (hv : v < n) (hu : u < n) :
    Calls Try.prog 38 #[.pointer (some ⟨pf, 0, none⟩), .int .i64 ((v : Int) + 1), .int .i64 ((u : Int) + 1)] w fun e w' => e = .returned (.tuple #[]) ∧ ∃ τ l R par' d' rt', LctAt w' pf g (n + 1) cap τ ed ∧ Pathed (n + 1) σ par rt (v + 1) (u + 1) τ l R par' d' rt' ∧ Fr [g] w w' :=
  path_w h hF (v + 1) (u + 1) (by omega) (by omega) (by omega) (by omega)

theorem Pathed.lg {w : World} {pf g n cap : Nat} {σ τ : Tbl} {E : Nat → Nat → Prop} {key : Nat → Int} {ed : Int} {par rt par' d' rt' : Nat → Nat} {i j : Nat} {l : BT} {R : Fst} (h : Pathed (n + 1) σ par rt i j τ l R par' d' rt') (hL : LctAt w pf g (n + 1) cap τ ed)
    (hE : ∀ v u, E v u ↔ Adj par (v + 1) (u + 1)) (hk : ∀ v, v < n → (σ (v + 1)).key = key v) : LG w pf g n E key ed :=
  ⟨cap, τ, _, par', d', rt', hL, h.lf, fun v u => (hE v u).trans (h.adj _ _).symm, fun v hv => by rw [h.key]; exact hk v hv⟩

/-- The path, told over the vertices. -/
theorem Pathed.at {n : Nat} {σ τ : Tbl} {E : Nat → Nat → Prop} {par rt par' d' rt' : Nat → Nat} {v u : Nat} {l : BT} {R : Fst} (h : Pathed (n + 1) σ par rt (v + 1) (u + 1) τ l R par' d' rt')
    (hE : ∀ v u, E v u ↔ Adj par (v + 1) (u + 1)) (hr : rt (v + 1) = rt (u + 1)) : ∃ p, IsPath E v u p ∧ p.map (· + 1) = l.seq ++ [u + 1] ∧ (∀ x ∈ p, x < n) := by
  obtain ⟨h1, h2⟩ := path_unshift hE (h.path hr)
  refine ⟨_, h1, h2, fun x hx => ?_⟩
  have : x + 1 ∈ l.seq ++ [u + 1] := by rw [← h2]; exact List.mem_map.2 ⟨x, hx, rfl⟩
  have hm : x + 1 ∈ (BT.node false l (u + 1) .nil).nodes := by rw [← seq_mem]; simpa [BT.seq] using this
  have := (h.lf.lt (List.mem_cons_self) hm).2
  omega

theorem LG.csize {w : World} {pf g n : Nat} {E : Nat → Nat → Prop} {key : Nat → Int} {ed : Int} (h : LG w pf g n E key ed) : n ≤ 65536 := h.lts.2.2

theorem size_w {w : World} {pf g n : Nat} {E : Nat → Nat → Prop} {key : Nat → Int} {ed : Int} (h : LG w pf g n E key ed) (a : Int) :
    Calls Try.prog 18 #[.pointer (some ⟨pf, 0, none⟩), .int .i64 a] w fun e w' => e = .returned (.int .i64 (if inV n a then (csize n E a.toNat : Int) else 0)) ∧ LG w' pf g n E key ed ∧ Fr [g] w w' := by
  have H := Lib.hid h
  obtain ⟨cap, σ, F, par, d, rt, hL, hF, hE, hk⟩ := h
  have HF := Lib.hid hF; clear hF
  have HE := Lib.hid hE; clear hE
  have HK := Lib.hid hk; clear hk
  have hN := hL.le
  have A1 := has_w hL a
  cases hva : inV n a with
  | false =>
    rw [hva] at A1
    have HA := Lib.hid A1; clear A1 hva
    go_enter Try.func18, Try.ntmps18
    go_wp2_with fail
    refine HA.out.mono ?_
    rintro _ w ⟨rfl, rfl⟩
    go_wp2
    go_ret
    exact ⟨rfl, H.out, Fr.refl _ _⟩
  | true =>
    rw [hva] at A1
    have HA := Lib.hid A1; clear A1
    obtain ⟨v, rfl, hv⟩ := inV_nat hva
    clear hva
    go_enter Try.func18, Try.ntmps18
    go_wp2_with fail
    refine HA.out.mono ?_
    rintro _ w ⟨rfl, rfl⟩
    go_wp2_with fail
    refine (expose_v hL HF.out v hv).mono ?_
    rintro _ w2 ⟨m1, τ1, l1, R1, rfl, hL1, hE1, hF1⟩
    have hres : (τ1 (v + 1)).total = (csize n E v : Int) := by
      have h1 := (hE1.lf.rep _ (List.mem_cons_self)).2.2.2.2.1
      have h2 := hE1.lf.size (x := v + 1) (by simp [BT.nodes])
      rw [h1, h2]
      have hp : (fnodes ((BT.node false l1 (v + 1) BT.nil, 0) :: R1)).Perm ((List.range n).map (· + 1)) := by
        refine (List.perm_ext_iff_of_nodup hE1.lf.nd (nodup_map_succ.2 List.nodup_range)).2 (fun x => ?_)
        rw [hE1.lf.mem]
        simp only [List.mem_map, List.mem_range]
        exact ⟨fun h => ⟨x - 1, by omega, by omega⟩, fun ⟨y, hy, e⟩ => by omega⟩
      have e : ((fnodes ((BT.node false l1 (v + 1) BT.nil, 0) :: R1)).filter (fun y => decide (rt y = rt (v + 1)))).length = csize n E v := by
        rw [(hp.filter _).length_eq, List.filter_map, List.length_map]
        unfold Proofs.Ytoppjjgecgbbkaa.csize
        congr 1
        refine List.filter_congr (fun x _ => ?_)
        show decide (rt (x + 1) = rt (v + 1)) = _
        refine decide_eq_decide.2 ?_
        rw [conn_rt HF.out.rtd HE.out]; exact eq_comm
      rw [e]
      have := csize_le n E v
      unfold wrap64; omega
    have HE1 := Lib.hid hE1; clear hE1
    have a8 := hL1.nodes.c8 (v + 1) (by omega)
    rw [hres] at a8
    clear hres
    have d1 := hL1.hd.cell 1
    simp only [List.getElem?_cons_zero, List.getElem?_cons_succ] at d1
    have hv2 : ((v + 1 : Nat) : Int) < ((n + 1 : Nat) : Int) := by omega
    go_wp2
    go_ret
    exact ⟨rfl, ⟨cap, τ1, _, par, d, rt, hL1, HE1.out.lf, HE.out, fun x hx => by rw [HE1.out.key]; exact HK.out x hx⟩, hF1⟩

/-- A forest whose header counts its edges. -/
def LM (w : World) (pf g n : Nat) (E : Nat → Nat → Prop) (key : Nat → Int) : Prop := LG w pf g n E key ((n : Int) - nc n E)

theorem trees_w {w : World} {pf g n : Nat} {E : Nat → Nat → Prop} {key : Nat → Int} (h : LM w pf g n E key) :
    Calls Try.prog 17 #[.pointer (some ⟨pf, 0, none⟩)] w fun e w' => e = .returned (.int .i64 (nc n E)) ∧ ∃ k, w' = w.drewN k := by
  have hn := LG.csize h
  obtain ⟨cap, σ, F, par, d, rt, hL, hF, hE, hk⟩ := h
  clear hF hE hk
  have hnc := nc_le n E
  generalize nc n E = q at *
  have c0 := hL.hd.cell 0
  have c1 := hL.hd.cell 1
  have c2 := hL.hd.cell 2
  simp only [List.getElem?_cons_zero, List.getElem?_cons_succ] at c0 c1 c2
  have hV := Lib.hid (valid_w c0)
  have hw1 : IntKind.i64.wrap ((n : Int) - ((n : Int) - q)) = q := by rw [show (n : Int) - ((n : Int) - q) = q by omega]; exact IntWalk.i64_in _ (by omega)
  clear hL
  go_enter Try.func17, Try.ntmps17
  go_wp2_with fail
  refine hV.out.mono ?_
  rintro _ w ⟨rfl, rfl⟩
  go_wp2
  go_quiet (fail)
  go_wp2
  go_ret
  exact ⟨ret_int (by omega), _, rfl⟩

theorem dist_w {w : World} {pf g n : Nat} {E : Nat → Nat → Prop} {key : Nat → Int} {ed : Int} (h : LG w pf g n E key ed) (a b : Int) :
    Calls Try.prog 21 #[.pointer (some ⟨pf, 0, none⟩), .int .i64 a, .int .i64 b] w fun e w' => ∃ x : Int, e = .returned (.int .i64 x) ∧ ((¬ ConnI n E a b ∧ x = -1) ∨ ∃ (v u : Nat) (p : List Nat), a = v ∧ b = u ∧ v < n ∧ u < n ∧ IsPath E v u p ∧ x = (p.length : Int) - 1) ∧ LG w' pf g n E key ed ∧ Fr [g] w w' := by
  go_enter Try.func21, Try.ntmps21
  go_wp2_with fail
  refine (connected_w h a b).mono ?_
  rintro _ w2 ⟨r, rfl, hr, h2, hF2⟩
  have HR := Lib.hid hr; clear hr
  cases r with
  | false =>
    have H2 := Lib.hid h2; clear h2 h
    go_wp2
    go_ret
    exact ⟨-1, rfl, .inl ⟨fun e => (by have := HR.out.2 e; cases this), rfl⟩, H2.out, hF2⟩
  | true =>
    obtain ⟨va, vb, hc⟩ := HR.out.1 rfl
    obtain ⟨v, rfl, hv⟩ := inV_nat va
    obtain ⟨u, rfl, hu⟩ := inV_nat vb
    clear va vb HR h
    obtain ⟨cap, σ, F, par, d, rt, hL, hF, hE, hk⟩ := h2
    have hrt := (conn_rt hF.rtd hE).1 hc
    have HF := Lib.hid hF; clear hF
    have HE := Lib.hid hE; clear hE
    have HK := Lib.hid hk; clear hk
    have hN := hL.le
    go_wp2_with fail
    refine (path_v hL HF.out v u hv hu).mono ?_
    rintro _ w3 ⟨rfl, τ, l, R, par', d', rt', hL3, hP, hF3⟩
    obtain ⟨p, hp1, hp2, hp3⟩ := hP.at HE.out hrt
    have hpl : (τ (u + 1)).size = (p.length : Int) ∧ p.length ≤ n ∧ 0 < p.length := by
      have h1 := (hP.lf.rep _ (List.mem_cons_self)).2.2.2.1
      have h2 : (BT.node false l (u + 1) .nil).nodes.length = p.length := by
        rw [← (BT.seq_perm _).length_eq]
        have := congrArg List.length hp2
        simpa [BT.seq] using this.symm
      have h3 := nodup_le hp1.nd hp3
      have h4 : 0 < p.length := List.length_pos_iff.2 hp1.ne
      refine ⟨?_, h3, h4⟩
      rw [h1, h2]; unfold wrap64; omega
    obtain ⟨q1, q2, q3⟩ := hpl
    have a5 := hL3.nodes.c5 (u + 1) (by omega)
    rw [q1] at a5
    have HP := Lib.hid hP; clear hP
    have Hp := Lib.hid hp1; clear hp1 hp2 hp3 q1
    have d1 := hL3.hd.cell 1
    simp only [List.getElem?_cons_zero, List.getElem?_cons_succ] at d1
    have hu2 : ((u + 1 : Nat) : Int) < ((n + 1 : Nat) : Int) := by omega
    go_wp2
    go_ret
    exact ⟨_, rfl, .inr ⟨v, u, p, rfl, rfl, hv, hu, Hp.out, rfl⟩, HP.out.lg hL3 HE.out HK.out, hF2.then hF3⟩

end Go.Proofs.Ytoppjjgecgbbkaa

/- lct: check and Link. -/
namespace Go.Proofs.Ytoppjjgecgbbkaa
open Go.RowKit Classical
set_option maxRecDepth 10000
set_option maxHeartbeats 800000

theorem check_w {w : World} {pf g n cap : Nat} {σ : Tbl} {ed : Int} (h : LctAt w pf g (n + 1) cap σ ed) (b m : Nat) (f : Nat → Int) (hm : m ≤ 100) (hb : ∀ k, k < m → w.cell? ⟨b, k, none⟩ = some (.int .i64 (f k))) :
    Calls Try.prog 35 #[.pointer (some ⟨pf, 0, none⟩), .slice (some ⟨b, 0, none⟩) m m] w fun e w' => ((e = .returned (.int .i64 0) ∧ ∀ k, k < m → inV n (f k) = true) ∨ (e = .returned (.int .i64 3) ∧ ∃ k, k < m ∧ inV n (f k) = false)) ∧ w' = w := by
  have c0 := h.hd.cell 0
  simp only [List.getElem?_cons_zero] at c0
  have hV := Lib.hid (valid_w c0)
  clear c0
  have HB := Lib.hid hb; clear hb
  go_enter Try.func35, Try.ntmps35
  go_wp2_with fail
  refine hV.out.mono ?_
  rintro _ w ⟨rfl, rfl⟩
  go_wp2
  go_loopw [12] (fun x wr => ∃ k : Nat, k ≤ m ∧ x = .int .i64 k ∧ wr = w ∧ ∀ j, j < k → inV n (f j) = true) (fun x _ => m - (intOf x).toNat)
  case atStart => exact ⟨0, Nat.zero_le _, rfl, rfl, fun j hj => by omega⟩
  case round =>
    obtain ⟨k, hk, rfl, rfl, hall⟩ := hrel
    have Hall := Lib.hid hall; clear hall
    by_cases hlt : k < m
    · have hc := HB.out k hlt
      have hA := has_w h (f k)
      cases hv : inV n (f k) with
      | true =>
        rw [hv] at hA
        have HA := Lib.hid hA; clear hA
        have Hv := Lib.hid hv; clear hv
        go_wp2_with fail
        refine HA.out.mono ?_
        rintro _ w0 ⟨rfl, rfl⟩
        go_wp2
        exact ⟨⟨k + 1, by omega, by go_num, trivial, fun j hj => by
          by_cases e : j = k
          · rw [e]; exact Hv.out
          · exact Hall.out j (by omega)⟩, by simp [intOf]; omega⟩
      | false =>
        rw [hv] at hA
        have HA := Lib.hid hA; clear hA
        have Hv := Lib.hid hv; clear hv
        go_wp2_with fail
        refine HA.out.mono ?_
        rintro _ w0 ⟨rfl, rfl⟩
        go_wp2
        go_ret
        exact ⟨.inr ⟨rfl, k, hlt, Hv.out⟩, rfl⟩
    · go_wp2
      go_ret
      exact ⟨.inl ⟨rfl, fun j hj => Hall.out j (by omega)⟩, rfl⟩

theorem lead_v {w : World} {pf g n cap : Nat} {σ : Tbl} {ed : Int} (h : LctAt w pf g (n + 1) cap σ ed) {par d rt : Nat → Nat} {F : Fst} (hF : LF (n + 1) σ F par d rt) (v : Nat) (hv : v < n) :
    Calls Try.prog 36 #[.pointer (some ⟨pf, 0, none⟩), .int .i64 ((v : Int) + 1)] w fun e w' => e = .returned (.tuple #[]) ∧ ∃ τ l R par' d' rt', LctAt w' pf g (n + 1) cap τ ed ∧ LF (n + 1) τ ((.node true l (v + 1) .nil, 0) :: R) par' d' rt' ∧ (∀ x, (τ x).key = (σ x).key) ∧
      (∀ x y, Adj par' x y ↔ Adj par x y) ∧ (∀ x y, rt' x = rt' y ↔ rt x = rt y) ∧ rt' (v + 1) = v + 1 ∧ Fr [g] w w' := lead_w h hF (v + 1) (by omega) (by omega)
theorem refresh_v {w : World} {pf g n cap : Nat} {σ : Tbl} {ed : Int} (h : LctAt w pf g (n + 1) cap σ ed) (v : Nat) (hv : v < n) (hR : InR (n + 1) σ) (h0 : (σ (v + 1)).k0 ≠ v + 1) (h1 : (σ (v + 1)).k1 ≠ v + 1) :
    Calls Try.prog 32 #[.pointer (some ⟨pf, 0, none⟩), .int .i64 ((v : Int) + 1)] w fun e w' => e = .returned (.tuple #[]) ∧ LctAt w' pf g (n + 1) cap (refresh σ (v + 1)) ed ∧ Fr [g] w w' := refresh_w h (v + 1) (by omega) hR h0 h1

theorem LctAt.edges {w w0 : World} {pf g N cap : Nat} {σ : Tbl} {ed : Int} (h : LctAt w pf g N cap σ ed) (hF : Fr [g] w0 w) (e : Int) :
    LctAt (w.setCell ⟨pf, 2, none⟩ (.int .i64 e)) pf g N cap σ e ∧ Fr [pf, g] w0 (w.setCell ⟨pf, 2, none⟩ (.int .i64 e)) := by
  refine ⟨⟨?_, h.nodes.same (Below.heap_setCell _ _ _ _ (fun e => h.ne e.symm)), h.ne, h.le, h.cap⟩, (hF.mono (S' := [pf, g]) (fun b hb => .inl (by simp at hb; simp [hb]))).setCell _ _ (.inl (by simp))⟩
  have := h.hd.set 2 (.int .i64 e)
  simpa using this

noncomputable def linkCode (n : Nat) (E : Nat → Nat → Prop) (a b : Int) : Int :=
  if inV n a = true ∧ inV n b = true then (if a = b then 9 else if Conn E a.toNat b.toNat then 6 else 0) else 3
noncomputable def linkE (n : Nat) (E : Nat → Nat → Prop) (a b : Int) : Nat → Nat → Prop := if linkCode n E a b = 0 then addE E a.toNat b.toNat else E

theorem link_w {w : World} {pf g n : Nat} {E : Nat → Nat → Prop} {key : Nat → Int} (h : LM w pf g n E key) (a b : Int) :
    Calls Try.prog 16 #[.pointer (some ⟨pf, 0, none⟩), .int .i64 a, .int .i64 b] w fun e w' => e = .returned (.int .i64 (linkCode n E a b)) ∧ LM w' pf g n (linkE n E a b) key ∧ Fr [pf, g] w w' := by
  have H := Lib.hid h
  have hfrs := Lib.hid (LG.frs h)
  obtain ⟨hp1, hg1, hn1⟩ := LG.lts h
  obtain ⟨cap, σ, F, par, d, rt, hL, hF, hE, hk⟩ := h
  clear hF hE hk
  have hLa : LctAt (w.alloc (.cells #[.int .i64 a, .int .i64 b] 3)) pf g (n + 1) cap σ ((n : Int) - nc n E) := hL.below ((Below.refl _ w).alloc (Nat.le_refl _) _) hp1 hg1
  have hblk := Blk.new w [.int .i64 a, .int .i64 b] 3
  have hFa : Fr [] w (w.alloc (.cells #[.int .i64 a, .int .i64 b] 3)) := (Fr.refl _ _).alloc _
  have HMa := Lib.hid (LG.fr H.out hFa (by simp) (by simp))
  have hCk := check_w hLa w.heap.size 2 (fun k => if k = 0 then a else b) (by decide) (fun k hk => by
    rw [hblk.cell]
    rcases (show k = 0 ∨ k = 1 by omega) with rfl | rfl <;> rfl)
  have HCk := Lib.hid hCk; clear hCk hblk
  clear hLa hL
  go_enter Try.func16, Try.ntmps16
  go_wp2_with fail
  refine HCk.out.mono ?_
  rintro _ w1 ⟨hcode, rfl⟩
  clear HCk
  generalize w.alloc (.cells #[.int .i64 a, .int .i64 b] 3) = w1 at *
  rcases hcode with ⟨rfl, hall⟩ | ⟨rfl, k, hk, hbad⟩
  · have va : inV n a = true := hall 0 (by decide)
    have vb : inV n b = true := hall 1 (by decide)
    clear hall
    by_cases hab : a = b
    · have hlc : linkCode n E a b = 9 := by unfold linkCode; rw [if_pos ⟨va, vb⟩, if_pos hab]
      have hle : linkE n E a b = E := by unfold linkE; rw [hlc]; simp
      have Hlc := Lib.hid (And.intro hlc hle); clear hlc hle
      have hb : (a == b) = true := beq_iff_eq.2 hab
      clear va vb hab
      go_wp2
      go_ret
      rw [Hlc.out.1, Hlc.out.2]
      exact ⟨rfl, HMa.out, hFa.mono (by simp)⟩
    · have hb : (a == b) = false := beq_eq_false_iff_ne.2 hab
      have HL0 := Lib.hid (And.intro va (And.intro vb hab)); clear hab
      go_wp2_with fail
      refine (connected_w HMa.out a b).mono ?_
      rintro _ w2 ⟨r, rfl, hr, hM2, hF2⟩
      cases r with
      | true =>
        obtain ⟨_, _, hc⟩ := hr.1 rfl
        have hlc : linkCode n E a b = 6 := by unfold linkCode; rw [if_pos ⟨va, vb⟩, if_neg HL0.out.2.2, if_pos hc]
        have hle : linkE n E a b = E := by unfold linkE; rw [hlc]; simp
        have Hlc := Lib.hid (And.intro hlc hle); clear hlc hle hr
        have HM2 := Lib.hid hM2; clear hM2 va vb hc
        go_wp2
        go_ret
        rw [Hlc.out.1, Hlc.out.2]
        exact ⟨rfl, HM2.out, (hFa.mono (S' := [pf, g]) (by simp)).trans hF2 (fun q hq => .inl (by simp at hq; simp [hq]))⟩
      | false =>
        have hnc : ¬ Conn E a.toNat b.toNat := fun e => by have := hr.2 ⟨va, vb, e⟩; cases this
        have hlc : linkCode n E a b = 0 := by unfold linkCode; rw [if_pos ⟨va, vb⟩, if_neg HL0.out.2.2, if_neg hnc]
        have hle : linkE n E a b = addE E a.toNat b.toNat := by unfold linkE; rw [hlc]; simp
        have Hlc := Lib.hid (And.intro hlc hle); clear hlc hle hr
        obtain ⟨v, rfl, hv⟩ := inV_nat va
        obtain ⟨u, rfl, hu⟩ := inV_nat vb
        simp only [Int.toNat_natCast] at hnc Hlc
        have HN := Lib.hid hnc
        clear va vb HL0
        obtain ⟨cap2, σ2, F2, par2, d2, rt2, hL2, hLF2, hE2, hk2⟩ := hM2
        have hrt : rt2 (v + 1) ≠ rt2 (u + 1) := fun e => hnc ((conn_rt hLF2.rtd hE2).2 e)
        clear hnc
        have HF2 := Lib.hid hLF2; clear hLF2
        have HE2 := Lib.hid hE2; clear hE2
        have HK2 := Lib.hid hk2; clear hk2
        have HRt := Lib.hid hrt; clear hrt
        have hN := hL2.le
        go_wp2_with fail
        refine (lead_v hL2 HF2.out v hv).mono ?_
        rintro _ w3 ⟨rfl, τ3, l3, R3, par3, d3, rt3, hL3, hLF3, hk3, hadj3, hrt3, hri3, hF3⟩
        have HF3 := Lib.hid hLF3; clear hLF3
        have HQ3 := Lib.hid (And.intro hk3 (And.intro hadj3 (And.intro hrt3 hri3))); clear hk3 hadj3 hrt3 hri3
        go_wp2_with fail
        refine (expose_v hL3 HF3.out u hu).mono ?_
        rintro _ w4 ⟨m4, τ4, l4, R4, rfl, hL4, hE4, hF4⟩
        have key : (∃ par' d' rt' F', LF (n + 1) (refresh (lnk2 τ4 (v + 1) (u + 1)) (u + 1)) F' par' d' rt' ∧ (∀ x y, Adj par' x y ↔ Adj par2 x y ∨ (x = v + 1 ∧ y = u + 1) ∨ (x = u + 1 ∧ y = v + 1))) ∧
            (∀ x, (refresh (lnk2 τ4 (v + 1) (u + 1)) (u + 1) x).key = (σ2 x).key) ∧ (lnk2 τ4 (v + 1) (u + 1) (u + 1)).k0 ≠ u + 1 ∧ (lnk2 τ4 (v + 1) (u + 1) (u + 1)).k1 ≠ u + 1 ∧ InR (n + 1) (lnk2 τ4 (v + 1) (u + 1)) := by
          obtain ⟨hk3, hadj3, hrt3, hri3⟩ := HQ3.out
          have hne3 : rt3 (v + 1) ≠ rt3 (u + 1) := fun e => HRt.out ((hrt3 _ _).1 e)
          have hin := hE4.trees _ (List.mem_cons_self) ⟨v + 1, by simp [BT.nodes], hne3⟩
          obtain ⟨R5, hR5⟩ := mem_split_perm hin
          have hlf := hE4.lf.perm ((List.Perm.cons _ hR5).trans (List.Perm.swap _ _ _))
          obtain ⟨⟨par', d', rt', a1, a2⟩, a3, a4, a5, a6⟩ := hlf.link (a := v + 1) rfl (by omega) hri3 (fun e => hne3 (by rw [hri3, e]))
          exact ⟨⟨par', d', rt', _, a1, fun x y => by rw [a2, hadj3]⟩, fun x => by rw [a3, hE4.key, hk3], a4, a5, a6⟩
        have Key := Lib.hid key; clear key hE4
        have d4 := hL4.hd.cell 1
        simp only [List.getElem?_cons_zero, List.getElem?_cons_succ] at d4
        have hfz4 := hL4.nodes.frozen
        have a2 := hL4.nodes.c2 (v + 1) (by omega)
        obtain ⟨hL5, hF5⟩ := hL4.st2 (Fr.refl [g] w4) (i := v + 1) (by omega) (u + 1)
        have hL5' : LctAt (w4.setCell ⟨g, (v + 1) * 9 + 2, none⟩ (.int .i64 ((u : Int) + 1))) pf g (n + 1) cap2 (lnk1 τ4 (v + 1) (u + 1)) ((n : Int) - nc n E) := hL5
        have hF5' : Fr [g] w4 (w4.setCell ⟨g, (v + 1) * 9 + 2, none⟩ (.int .i64 ((u : Int) + 1))) := hF5
        have HL5 := Lib.hid hL5'; clear hL5 hL5' hF5
        have hv2 : ((v + 1 : Nat) : Int) < ((n + 1 : Nat) : Int) := by omega
        have hu2 : ((u + 1 : Nat) : Int) < ((n + 1 : Nat) : Int) := by omega
        go_wp2
        generalize w4.setCell ⟨g, (v + 1) * 9 + 2, none⟩ (.int .i64 ((u : Int) + 1)) = w5 at *
        have hL5 := HL5.out
        clear HL5 d4 hfz4 a2
        have d5 := hL5.hd.cell 1
        simp only [List.getElem?_cons_zero, List.getElem?_cons_succ] at d5
        have hfz5 := hL5.nodes.frozen
        have b7 := hL5.nodes.c7 (u + 1) (by omega)
        have b8 := hL5.nodes.c8 (v + 1) (by omega)
        have hwu : IntKind.i64.wrap ((u : Int) + 1) = (u : Int) + 1 := IntWalk.i64_in _ (by omega)
        have hwv : IntKind.i64.wrap ((v : Int) + 1) = (v : Int) + 1 := IntWalk.i64_in _ (by omega)
        have htu : ((u : Int) + 1).toNat = u + 1 := by omega
        have htv : ((v : Int) + 1).toNat = v + 1 := by omega
        have hcu : 0 ≤ (u : Int) + 1 := by omega
        have hcv : 0 ≤ (v : Int) + 1 := by omega
        have hcu2 : (u : Int) + 1 < (n : Int) + 1 := by omega
        have hcv2 : (v : Int) + 1 < (n : Int) + 1 := by omega
        refine region_one 21 (fun w' => LctAt w' pf g (n + 1) cap2 (lnk2 τ4 (v + 1) (u + 1)) ((n : Int) - nc n E) ∧ Fr [g] w5 w') (by kernel_rfl) (by kernel_rfl) (by kernel_rfl) ?_
        iterate 21 (refine gWalk_pre (by decide) (fun K hK => ?_); go_simp; refine hK _ ?_; clear hK K)
        refine gWalk_write rfl undef (fun w' hw' => ?_) ?_
        · obtain ⟨nq, rfl⟩ := hw'
          go_simp
          rw [iw64]
          exact (hL5.eqv (Eqv.drewN w5 nq)).st7 ((Fr.refl [g] w5).drewN nq) (i := u + 1) (by omega) _
        refine gWalk_nil ?_
        rintro w6 ⟨hL6, hF6⟩
        clear b7 b8 d5 hfz5
        go_wp2_with fail
        refine (refresh_v hL6 u hu Key.out.2.2.2.2 Key.out.2.2.1 Key.out.2.2.2.1).mono ?_
        rintro _ w7 ⟨rfl, hL7, hF7⟩
        have c7 := hL7.hd.cell 2
        simp only [List.getElem?_cons_zero, List.getElem?_cons_succ] at c7
        have hfz7 := hL7.hd.frozen 2
        obtain ⟨par', d', rt', F', q1, q2⟩ := Key.out.1
        have hAE : ∀ x y, addE E v u x y ↔ Adj par' (x + 1) (y + 1) := by
          intro x y
          rw [q2]
          unfold addE
          rw [HE2.out x y]
          simp only [Nat.add_right_cancel_iff]
        have hcnt := nc_add (n := n) hfrs.out ⟨par', d', rt', q1.rtd, hAE⟩ HN.out hv hu
        have hnc1 := nc_le n (addE E v u)
        have hed : IntKind.i64.wrap ((n : Int) - nc n E + 1) = (n : Int) - nc n (addE E v u) := by
          rw [show (n : Int) - nc n E + 1 = (n : Int) - nc n (addE E v u) by omega]; exact IntWalk.i64_in _ (by omega)
        obtain ⟨hL8, hF8⟩ := hL7.edges (hF2.then (hF3.then (hF4.then (hF5'.then (hF6.then hF7))))) ((n : Int) - nc n (addE E v u))
        have Hfin := Lib.hid (show LM _ pf g n (addE E v u) key from ⟨cap2, _, F', par', d', rt', hL8, q1, hAE, fun x hx => by rw [Key.out.2.1]; exact HK2.out x hx⟩)
        have hnq : nc n E = nc n (addE E v u) + 1 := hcnt.symm
        rw [hnq] at c7
        have hed2 : (n : Int) - ((nc n (addE E v u) + 1 : Nat) : Int) + 1 = (n : Int) - nc n (addE E v u) := by omega
        clear hL8 q1 q2 hAE hcnt hnq hed Key
        generalize nc n (addE E v u) = z at *
        go_wp2
        go_ret
        rw [Hlc.out.1, Hlc.out.2]
        have e : (n : Int) - ((z : Int) + 1) + 1 = (n : Int) - z := by omega
        rw [e]
        exact ⟨rfl, Hfin.out, (hFa.mono (S' := [pf, g]) (by simp)).trans hF8 (fun q hq => .inl hq)⟩
  · have hlc : linkCode n E a b = 3 := by
      unfold linkCode; rw [if_neg]
      rintro ⟨h1, h2⟩
      rcases (show k = 0 ∨ k = 1 by omega) with rfl | rfl
      · have hbad : inV n a = false := hbad; rw [h1] at hbad; cases hbad
      · have hbad : inV n b = false := hbad; rw [h2] at hbad; cases hbad
    have hle : linkE n E a b = E := by unfold linkE; rw [hlc]; simp
    have Hlc := Lib.hid (And.intro hlc hle); clear hlc hle hbad
    go_wp2
    go_ret
    rw [Hlc.out.1, Hlc.out.2]
    exact ⟨rfl, HMa.out, hFa.mono (by simp)⟩

end Go.Proofs.Ytoppjjgecgbbkaa

namespace Go.Proofs.Ytoppjjgecgbbkaa
open Go.RowKit
set_option maxRecDepth 10000
set_option maxHeartbeats 800000

theorem new_no (n : Int) (w : World) (h : n < 0 ∨ 65536 < n) :
    Calls Try.prog 14 #[.int .i64 n] w fun e w' => e = .returned (.tuple #[.pointer none, .int .i64 2]) ∧ w' = w := by
  rcases h with h | h
  · go_enter Try.func14, Try.ntmps14
    go_wp2
    go_ret2
    exact ⟨rfl, rfl⟩
  · have h0 : ¬ n < 0 := by omega
    go_enter Try.func14, Try.ntmps14
    go_wp2
    go_ret2
    exact ⟨rfl, rfl⟩

def nd0 : Nd := { k0 := 0, k1 := 0, up := 0, flip := false, key := 0, size := 0, first := 0, light := 0, total := 0 }
def ndv : Value := .agg #[.int .i64 0, .int .i64 0, .int .i64 0, .bool false, .int .i64 0, .int .i64 0, .int .i64 0, .int .i64 0, .int .i64 0]
theorem Try.info71 : (Try.prog.info? 71).map (fun i => (i.zero, i.size, i.bytes)) = some (some ndv, 9, 72) := by kernel_rfl
theorem ndv_cells : ndv.cells = #[.int .i64 0, .int .i64 0, .int .i64 0, .bool false, .int .i64 0, .int .i64 0, .int .i64 0, .int .i64 0, .int .i64 0] := by kernel_rfl

theorem made_nodes (N i f : Nat) (hi : i < N) (hf : f < 9) : (madeCells ndv.cells (N * 9))[i * 9 + f]? = some (fv nd0 f) := by
  rw [ndv_cells]
  unfold madeCells
  have hlt : i * 9 + f < N * 9 := by omega
  have : (i * 9 + f) % 9 = f := by omega
  simp only [Array.getElem?_map, Array.getElem?_range, hlt, if_true, Option.map_some]
  show some (_[(i * 9 + f) % 9]!) = _
  rw [this]
  match f, hf with
  | 0, _ => rfl
  | 1, _ => rfl
  | 2, _ => rfl
  | 3, _ => rfl
  | 4, _ => rfl
  | 5, _ => rfl
  | 6, _ => rfl
  | 7, _ => rfl
  | 8, _ => rfl

def zeroNodes (m : Nat) : Array Value := madeCells ndv.cells (m * 9)
theorem run_make_nodes (n : Nat) (w : World) (hn : n ≤ 1048576) : (Instr.makeSlice 63 (.int .i64 n) (.int .i64 n)).run Try.prog w = .ok (.slice (some ⟨w.heap.size, 0, none⟩) n n) (w.alloc (.cells (zeroNodes n) 71)) := by
  obtain ⟨i0, hi, hz0, hz1, hz2⟩ := info_parts Try.info71
  have h := run_make (P := Try.prog) w 63 71 i0 ndv Try.underlying63 hi hz0 .i64 .i64 n n (by omega) (by omega) (by rw [hz2]; omega) (by omega)
  rw [hz1] at h
  simp only [Int.toNat_natCast] at h
  exact h

def newT (k : Nat) : Tbl := fun i => if 0 < i ∧ i ≤ k then { nd0 with size := 1, first := i, total := 1 } else nd0
theorem newT_succ (k : Nat) : refresh (newT k) (k + 1) = newT (k + 1) := by
  have h0 : (newT k (k + 1)).k0 = 0 ∧ (newT k (k + 1)).k1 = 0 ∧ newT k (k + 1) = nd0 := by
    have : newT k (k + 1) = nd0 := by unfold newT; rw [if_neg (by omega)]
    rw [this]; exact ⟨rfl, rfl, rfl⟩
  have e : refresh (newT k) (k + 1) = ref0 (newT k) (k + 1) := by
    show refKid (refKid (ref0 (newT k) (k + 1)) (k + 1) (newT k (k + 1)).k0) (k + 1) (newT k (k + 1)).k1 = _
    rw [h0.1, h0.2.1]; rfl
  rw [e]
  funext i
  unfold ref0
  by_cases hi : i = k + 1
  · subst hi
    rw [upd_same, h0.2.2]
    unfold newT; rw [if_pos (by omega)]
    simp [nd0, wrap64]
  · rw [upd_other hi]
    unfold newT
    by_cases h1 : 0 < i ∧ i ≤ k
    · rw [if_pos h1, if_pos (by omega)]
    · rw [if_neg h1, if_neg (by omega)]
theorem newT_inR (k N : Nat) (_hk : k < N) : InR N (newT k) := by
  intro i hi
  unfold newT
  split
  · exact ⟨by show 0 < N; omega, by show 0 < N; omega, by show 0 < N; omega, hi⟩
  · exact ⟨by show 0 < N; omega, by show 0 < N; omega, by show 0 < N; omega, by show 0 < N; omega⟩

theorem new_w (n : Nat) (w : World) (h : n ≤ 65536) :
    Calls Try.prog 14 #[.int .i64 n] w fun e w' => ∃ pf g, e = .returned (.tuple #[.pointer (some ⟨pf, 0, none⟩), .int .i64 0]) ∧ LM w' pf g n (fun _ _ => False) (fun _ => 0) ∧ Fr [] w w' ∧ w.heap.size ≤ pf ∧ w.heap.size ≤ g := by
  have hmk : ∀ W : World, (Instr.makeSlice 63 (.int .i64 ((n : Int) + 1)) (.int .i64 ((n : Int) + 1))).run Try.prog W = .ok (.slice (some ⟨W.heap.size, 0, none⟩) (n + 1) (n + 1)) (W.alloc (.cells (zeroNodes (n + 1)) 71)) := fun W => run_make_nodes (n + 1) W (by omega)
  have h0 : ¬ ((n : Int) < 0) := by omega
  have h1 : ¬ (65536 < (n : Int)) := by omega
  go_enter Try.func14, Try.ntmps14
  go_wp2
  obtain ⟨W0, hW0⟩ : ∃ W0, (w.alloc (.cells (zeroNodes (n + 1)) 71)).alloc (.cells #[.pointer (some ⟨w.heap.size + 1, 0, none⟩), .slice (some ⟨w.heap.size, 0, none⟩) (n + 1) (n + 1), .int .i64 0] 65) = W0 := ⟨_, rfl⟩
  have hL0 : LctAt W0 (w.heap.size + 1) w.heap.size (n + 1) (n + 1) (newT 0) 0 := by
    subst hW0
    refine ⟨?_, ?_, by omega, by omega, Nat.le_refl _⟩
    · have := Blk.new (w.alloc (.cells (zeroNodes (n + 1)) 71)) [.pointer (some ⟨w.heap.size + 1, 0, none⟩), .slice (some ⟨w.heap.size, 0, none⟩) (n + 1) (n + 1), .int .i64 0] 65
      rw [World.size_alloc] at this; exact this
    · refine ⟨zeroNodes (n + 1), ?_, by simp [zeroNodes, size_madeCells], fun i hi f hf => ?_⟩
      · exact (Below.heap_alloc _ _ _ (by simp)).trans (World.alloc_heap_new w _)
      · have : newT 0 i = nd0 := by unfold newT; rw [if_neg (by omega)]
        rw [this]; exact made_nodes (n + 1) i f hi hf
  have hF0 : Fr [] w W0 := by subst hW0; exact ((Fr.refl _ _).alloc _).alloc _
  rw [hW0]
  clear hW0 hmk
  go_loopw [22] (fun x wr => ∃ k : Nat, k ≤ n ∧ x = .int .i64 k ∧ LctAt wr (w.heap.size + 1) w.heap.size (n + 1) (n + 1) (newT k) 0 ∧ Fr [] w wr) (fun x _ => n - (intOf x).toNat)
  case atStart => exact ⟨0, Nat.zero_le _, rfl, hL0, hF0⟩
  case round =>
    clear hL0 hF0
    obtain ⟨k, hk, rfl, hL, hF⟩ := hrel
    by_cases hlt : k < n
    · have hz : newT k (k + 1) = nd0 := by unfold newT; rw [if_neg (by omega)]
      have HQ := Lib.hid (show (newT k (k + 1)).k0 ≠ k + 1 ∧ (newT k (k + 1)).k1 ≠ k + 1 by rw [hz]; simp [nd0])
      clear hz
      go_wp2_with fail
      refine (refresh_v hL k hlt (newT_inR k (n + 1) (by omega)) HQ.out.1 HQ.out.2).mono ?_
      rintro _ w2 ⟨rfl, hL2, hF2⟩
      rw [newT_succ] at hL2
      go_wp2
      exact ⟨⟨k + 1, by omega, by go_num, hL2, hF.trans hF2 (fun b hb => .inr (by simp at hb; omega))⟩, by simp [intOf]; omega⟩
    · obtain rfl : k = n := by omega
      go_wp2
      go_ret2
      have hv : ∀ x, 0 < x → x < k + 1 → newT k x = { nd0 with size := 1, first := x, total := 1 } := fun x h1 h2 => by unfold newT; rw [if_pos (by omega)]
      have h00 : newT k 0 = nd0 := by unfold newT; rw [if_neg (by omega)]
      have hlf := LF.new k (newT k) (by rw [h00]; simp [nd0]) (fun x h1 h2 => by rw [hv x h1 h2]; simp [nd0])
      refine ⟨w.heap.size + 1, w.heap.size, rfl, ⟨k + 1, newT k, _, _, _, _, ?_, hlf, fun v u => ?_, fun v hv' => ?_⟩, hF, by omega, Nat.le_refl _⟩
      · rw [nc_none]; simpa using hL
      · simp [Adj]
      · rw [hv (v + 1) (by omega) (by omega)]; rfl

end Go.Proofs.Ytoppjjgecgbbkaa
