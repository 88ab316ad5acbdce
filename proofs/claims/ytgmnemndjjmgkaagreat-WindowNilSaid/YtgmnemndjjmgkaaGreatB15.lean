/- lct: Cut. -/
import Derived.Test.YtgmnemndjjmgkaaGreatB14
import Derived.Test.YtgmnemndjjmgkaaGreatB13
set_option linter.unusedSimpArgs false
set_option linter.unusedVariables false
/- lct: lead, path, has, check, Connected, Size, Trees, Dist, Min, Meet. -/
namespace Go.Proofs.YtgmnemndjjmgkaaGreat
open Go.RowKit
set_option maxRecDepth 10000
set_option maxHeartbeats 800000
theorem lead_w {w : World} {pf g N cap : Nat} {σ : Tbl} {ed : Int} (h : LctAt w pf g N cap σ ed) {par d rt : Nat → Nat} {F : Fst} (hF : LF N σ F par d rt) (i : Nat) (hi0 : 0 < i) (hi : i < N) :
    Calls Tryz.prog 172 #[.pointer (some ⟨pf, 0, none⟩), .int .i64 i] w fun e w' => e = .returned (.tuple #[]) ∧ ∃ τ l R par' d' rt', LctAt w' pf g N cap τ ed ∧ LF N τ ((.node true l i .nil, 0) :: R) par' d' rt' ∧ (∀ x, (τ x).key = (σ x).key) ∧
      (∀ x y, Adj par' x y ↔ Adj par x y) ∧ (∀ x y, rt' x = rt' y ↔ rt x = rt y) ∧ rt' i = i ∧ Fr [g] w w' := by
 have hN := h.le
 have hi2 : (i : Int) < N := by omega
 go_enter Tryz.func172, Tryz.ntmps172
 go_wp2_with fail
 refine (expose_w h hF i hi0 hi).mono ?_
 rintro _ w2 ⟨m, τ, l, R, rfl, hL2, hE, hF2⟩
 obtain ⟨par', d', rt', q1, q2, q3, q4, q5⟩ := hE.lf.lead
 have HE := Lib.hid hE.key
 have Q := Lib.hid (And.intro q1 (And.intro q2 (And.intro q3 q4)))
 clear q1 q2 q3 q4 q5 hE h hF
 have d1 := hL2.hd.cell 1
 simp only [List.getElem?_cons_zero, List.getElem?_cons_succ] at d1
 have a3 := hL2.nodes.c3 i hi
 have hfz := hL2.nodes.frozen
 obtain ⟨hL3, hF3⟩ := hL2.st3 hF2 hi true
 go_wp2
 go_end0
 refine ⟨rfl, _, l, R, par', d', rt', hL3, Q.out.1, fun x => ?_, Q.out.2.1, Q.out.2.2.1, Q.out.2.2.2, hF3⟩
 rw [← HE.out x]
 by_cases e : x = i
 · subst e; rw [upd_same]
 · rw [upd_other e]
structure Pathed (N : Nat) (σ : Tbl) (par rt : Nat → Nat) (i j : Nat) (τ : Tbl) (l : BT) (R : Fst) (par' d' rt' : Nat → Nat) : Prop where
  lf : LF N τ ((.node false l j .nil, 0) :: R) par' d' rt'
  key : ∀ x, (τ x).key = (σ x).key
  adj : ∀ x y, Adj par' x y ↔ Adj par x y
  rts : ∀ x y, rt' x = rt' y ↔ rt x = rt y
  rti : rt' i = i
  path : rt i = rt j → IsPath (Adj par) i j (l.seq ++ [j])
theorem path_w {w : World} {pf g N cap : Nat} {σ : Tbl} {ed : Int} (h : LctAt w pf g N cap σ ed) {par d rt : Nat → Nat} {F : Fst} (hF : LF N σ F par d rt) (i j : Nat) (hi0 : 0 < i) (hi : i < N) (hj0 : 0 < j) (hj : j < N) :
    Calls Tryz.prog 132 #[.pointer (some ⟨pf, 0, none⟩), .int .i64 i, .int .i64 j] w fun e w' => e = .returned (.tuple #[]) ∧ ∃ τ l R par' d' rt', LctAt w' pf g N cap τ ed ∧ Pathed N σ par rt i j τ l R par' d' rt' ∧ Fr [g] w w' := by
 go_enter Tryz.func132, Tryz.ntmps132
 go_wp2_with fail
 refine (lead_w h hF i hi0 hi).mono ?_
 rintro _ w2 ⟨rfl, τ, l, R, par', d', rt', hL2, hF', hkey, hadj, hrt, hri, hFr2⟩
 have HF' := Lib.hid hF'; clear hF'
 have Q := Lib.hid (And.intro hkey (And.intro hadj (And.intro hrt hri)))
 clear hkey hadj hrt hri h hF
 go_wp2_with fail
 refine (expose_w hL2 HF'.out j hj0 hj).mono ?_
 rintro _ w3 ⟨m, τ3, l3, R3, rfl, hL3, hE, hFr3⟩
 have HE := Lib.hid hE; clear hE
 go_wp2
 go_end0
 obtain ⟨hkey, hadj, hrt, hri⟩ := Q.out
 have hE := HE.out
 refine ⟨rfl, τ3, l3, R3, par', d', rt', hL3, ⟨hE.lf, fun x => (hE.key x).trans (hkey x), hadj, hrt, hri, fun e => ?_⟩, hFr2.then hFr3⟩
 obtain ⟨hn, hz, hc⟩ := hE.lf.top_seq
 have hjm : j ∈ l3.seq ++ [j] := by simp
 have hl : (l3.seq ++ [j]).getLast? = some j := last_snoc _ _
 generalize l3.seq ++ [j] = s at *
 cases s with
 | nil => cases hjm
 | cons y s => {
 have hy : y = i := by rw [← ch_rt_head hE.lf.rt0 hE.lf.rt1 hc hz j hjm, (hrt j i).2 e.symm, hri]
 subst hy
 have : IsPath (Adj par') y j (y :: s) := ⟨s, rfl, ch_wk (hz y (by simp)) (fun x hx => hz x (by simp [hx])) hc.2, hn, hl⟩
 exact this.mono (fun x y => (hadj x y).1)
 }
def LG (w : World) (pf g n : Nat) (E : Nat → Nat → Prop) (key : Nat → Int) (ed : Int) : Prop :=
  ∃ cap σ F par d rt, LctAt w pf g (n + 1) cap σ ed ∧ LF (n + 1) σ F par d rt ∧ (∀ v u, E v u ↔ Adj par (v + 1) (u + 1)) ∧ ∀ v, v < n → (σ (v + 1)).key = key v
theorem LG.frs {w : World} {pf g n : Nat} {E : Nat → Nat → Prop} {key : Nat → Int} {ed : Int} (h : LG w pf g n E key ed) : Frs E := by
 obtain ⟨cap, σ, F, par, d, rt, _, h2, h3, _⟩ := h
 exact ⟨par, d, rt, h2.rtd, h3⟩
theorem LG.lts {w : World} {pf g n : Nat} {E : Nat → Nat → Prop} {key : Nat → Int} {ed : Int} (h : LG w pf g n E key ed) : pf < w.heap.size ∧ g < w.heap.size ∧ n ≤ 65536 := by
 obtain ⟨cap, σ, F, par, d, rt, h1, _⟩ := h
 have := h1.le
 exact ⟨h1.lts.1, h1.lts.2, by omega⟩
theorem LG.fr {w w' : World} {pf g n : Nat} {E : Nat → Nat → Prop} {key : Nat → Int} {ed : Int} {S : List Nat} (h : LG w pf g n E key ed) (hf : Fr S w w') (hp : pf ∉ S) (hg : g ∉ S) : LG w' pf g n E key ed := by
 obtain ⟨cap, σ, F, par, d, rt, h1, h2⟩ := h
 exact ⟨cap, σ, F, par, d, rt, ⟨hf.blk h1.hd hp, h1.nodes.same (hf.keep g h1.nodes.lt hg), h1.ne, h1.le, h1.cap⟩, h2⟩
@[go_sem] theorem eq_lct (a : Addr) (w : World) : (binOp .eql 119 (.pointer (some a)) (.pointer (some a))).run Tryz.prog w = .ok (.bool true) w := by
 obtain ⟨j, hj⟩ := Option.isSome_iff_exists.1 (show (Tryz.prog.info? 194).isSome = true by kernel_rfl)
 exact run_eql_ptr_same w a Tryz.underlying119 hj
theorem valid_w {w : World} {pf : Nat} (hc : w.cell? ⟨pf, 0, none⟩ = some (.pointer (some ⟨pf, 0, none⟩))) :
    Calls Tryz.prog 152 #[.pointer (some ⟨pf, 0, none⟩)] w fun e w' => e = .returned (.bool true) ∧ w' = w := by
 go_enter Tryz.func152, Tryz.ntmps152
 go_wp2
 go_ret
 exact ⟨rfl, rfl⟩
def inV (n : Nat) (v : Int) : Bool := decide (0 ≤ v) && decide (v < n)
theorem has_w {w : World} {pf g n cap : Nat} {σ : Tbl} {ed : Int} (h : LctAt w pf g (n + 1) cap σ ed) (v : Int) :
    Calls Tryz.prog 133 #[.pointer (some ⟨pf, 0, none⟩), .int .i64 v] w fun e w' => e = .returned (.bool (inV n v)) ∧ w' = w := by
 have c0 := h.hd.cell 0
 have c1 := h.hd.cell 1
 have hN := h.le
 simp only [List.getElem?_cons_zero, List.getElem?_cons_succ] at c0 c1
 have hV := Lib.hid (valid_w c0)
 by_cases h1 : 0 ≤ v
 {
 by_cases h2 : v < n
 {
 have e : inV n v = true := by simp [inV, h1, h2]
 rw [e]; clear e
 go_enter Tryz.func133, Tryz.ntmps133
 go_wp2_with (go_at_call 152; refine hV.out.mono ?_; rintro e w' ⟨rfl, rfl⟩)
 go_ret
 exact ⟨rfl, rfl⟩
 }
 {
 have e : inV n v = false := by simp [inV, h2]
 rw [e]; clear e
 have d2 : decide (v < (n : Int)) = false := decide_eq_false h2
 go_enter Tryz.func133, Tryz.ntmps133
 go_wp2_with (go_at_call 152; refine hV.out.mono ?_; rintro e w' ⟨rfl, rfl⟩)
 go_ret
 exact ⟨rfl, rfl⟩
 }
 }
 {
 have e : inV n v = false := by simp [inV, h1]
 rw [e]; clear e
 go_enter Tryz.func133, Tryz.ntmps133
 go_wp2_with (go_at_call 152; refine hV.out.mono ?_; rintro e w' ⟨rfl, rfl⟩)
 go_ret
 exact ⟨rfl, rfl⟩
 }
theorem inV_nat {n : Nat} {v : Int} (h : inV n v = true) : ∃ k : Nat, v = k ∧ k < n := by
 simp only [inV, Bool.and_eq_true, decide_eq_true_eq] at h
 exact ⟨v.toNat, by omega, by omega⟩
def ConnI (n : Nat) (E : Nat → Nat → Prop) (a b : Int) : Prop := inV n a = true ∧ inV n b = true ∧ Conn E a.toNat b.toNat
theorem top_up {N : Nat} {σ : Tbl} {F : Fst} {par d rt : Nat → Nat} (h : LF N σ F par d rt) {t : BT} {b : Nat} (hm : (t, 0) ∈ F) (hb : t.root = b) (hb0 : b ≠ 0) {a : Nat} (ha : 0 < a) (haN : a < N) (hne : a ≠ b) (hr : rt a = rt b) : (σ a).up ≠ 0 := by
 intro e0
 obtain ⟨p, hp, hap⟩ := mem_fnodes.1 ((h.mem a).2 ⟨ha, haN⟩)
 have hk := (h.rep p hp).kids hap
 have hbt : b ∈ t.nodes := hb ▸ BT.root_mem (by rw [hb]; exact hb0)
 by_cases hpt : b ∈ p.1.nodes
 {
 -- the same tree: a is no root
 rcases hk.2.2.1 with e | e
 {
 obtain ⟨R, hR⟩ := mem_split_perm hm
 have h' := h.perm hR
 have hp' := hR.mem_iff.1 hp
 rcases List.mem_cons.1 hp' with e2 | e2
 · rw [e2] at e; exact hne (e.trans hb)
 · exact h'.disj e2 b hbt hpt
 }
 · rw [e0] at e; have := (h.lt hp e).1; omega
 }
 {
 rcases hk.2.2.1 with e | e
 {
 have hu : p.2 = 0 := (hk.2.2.2.1 e).symm.trans e0
 have c1 := h.ch _ hm
 have c2 := h.ch _ hp
 rw [hu] at c2
 have z1 := h.seq0 hm
 have z2 := h.seq0 hp
 have sx := seq_mem.2 hbt
 have sy := seq_mem.2 hap
 dsimp only at c1 z1
 cases hs1 : t.seq with
 | nil => rw [hs1] at sx; cases sx
 | cons x s1 => {
 cases hs2 : p.1.seq with
 | nil => rw [hs2] at sy; cases sy
 | cons y s2 => {
 have mx : x ∈ t.nodes := seq_mem.1 (by rw [hs1]; simp)
 have my : y ∈ p.1.nodes := seq_mem.1 (by rw [hs2]; simp)
 rw [hs1] at c1 z1 sx; rw [hs2] at c2 z2 sy
 have ra := ch_rt_head h.rt0 h.rt1 c1 z1 b sx
 have rb := ch_rt_head h.rt0 h.rt1 c2 z2 a sy
 have hxy : x = y := by rw [← ra, ← hr, rb]
 obtain ⟨R, hR⟩ := mem_split_perm hm
 have h' := h.perm hR
 rcases List.mem_cons.1 (hR.mem_iff.1 hp) with e2 | e2
 · rw [e2] at hpt; exact hpt hbt
 · exact h'.disj e2 x mx (hxy ▸ my)
 }
 }
 }
 · rw [e0] at e; have := (h.lt hp e).1; omega
 }
theorem expose_v {w : World} {pf g n cap : Nat} {σ : Tbl} {ed : Int} (h : LctAt w pf g (n + 1) cap σ ed) {par d rt : Nat → Nat} {F : Fst} (hF : LF (n + 1) σ F par d rt) (v : Nat) (hv : v < n) :
    Calls Tryz.prog 134 #[.pointer (some ⟨pf, 0, none⟩), .int .i64 ((v : Int) + 1)] w fun e w' => ∃ m τ l R, e = .returned (.int .i64 (m : Nat)) ∧ LctAt w' pf g (n + 1) cap τ ed ∧ Exposed (n + 1) σ F par d rt (v + 1) m τ l R ∧ Fr [g] w w' :=
  expose_w h hF (v + 1) (by omega) (by omega)
theorem connected_w {w : World} {pf g n : Nat} {E : Nat → Nat → Prop} {key : Nat → Int} {ed : Int} (h : LG w pf g n E key ed) (a b : Int) :
    Calls Tryz.prog 83 #[.pointer (some ⟨pf, 0, none⟩), .int .i64 a, .int .i64 b] w fun e w' => ∃ r : Bool, e = .returned (.bool r) ∧ (r = true ↔ ConnI n E a b) ∧ LG w' pf g n E key ed ∧ Fr [g] w w' := by
 have H := Lib.hid h
 obtain ⟨cap, σ, F, par, d, rt, hL, hF, hE, hk⟩ := h
 have HF := Lib.hid hF; clear hF
 have HE := Lib.hid hE; clear hE
 have HK := Lib.hid hk; clear hk
 have hN := hL.le
 cases hva : inV n a with
 | false => {
 have HR := Lib.hid (show ¬ ConnI n E a b from fun e => by rw [e.1] at hva; cases hva)
 have A1 := has_w hL a
 rw [hva] at A1
 have HA := Lib.hid A1; clear A1 hva
 go_enter Tryz.func83, Tryz.ntmps83
 go_wp2_with fail
 refine HA.out.mono ?_
 rintro _ w ⟨rfl, rfl⟩
 go_wp2
 go_ret
 exact ⟨false, rfl, by simp [HR.out], H.out, Fr.refl _ _⟩
 }
 | true => {
 have A1 := has_w hL a
 rw [hva] at A1
 have HA := Lib.hid A1; clear A1
 cases hvb : inV n b with
 | false => {
 have HR := Lib.hid (show ¬ ConnI n E a b from fun e => by rw [e.2.1] at hvb; cases hvb)
 have B1 := has_w hL b
 rw [hvb] at B1
 have HB := Lib.hid B1; clear B1 hva hvb
 go_enter Tryz.func83, Tryz.ntmps83
 go_wp2_with fail
 refine HA.out.mono ?_
 rintro _ w ⟨rfl, rfl⟩
 go_wp2_with fail
 refine HB.out.mono ?_
 rintro _ w ⟨rfl, rfl⟩
 go_wp2
 go_ret
 exact ⟨false, rfl, by simp [HR.out], H.out, Fr.refl _ _⟩
 }
 | true => {
 have B1 := has_w hL b
 rw [hvb] at B1
 have HB := Lib.hid B1; clear B1
 obtain ⟨v, rfl, hv⟩ := inV_nat hva
 obtain ⟨u, rfl, hu⟩ := inV_nat hvb
 have HC := Lib.hid (show ConnI n E v u ↔ Conn E v u from ⟨fun e => e.2.2, fun e => ⟨hva, hvb, e⟩⟩)
 clear hva hvb
 by_cases hvu : v = u
 {
 subst hvu
 go_enter Tryz.func83, Tryz.ntmps83
 go_wp2_with fail
 refine HA.out.mono ?_
 rintro _ w ⟨rfl, rfl⟩
 go_wp2_with fail
 refine HB.out.mono ?_
 rintro _ w ⟨rfl, rfl⟩
 go_wp2
 go_ret
 refine ⟨true, rfl, ?_, H.out, Fr.refl _ _⟩
 simp only [true_iff]; exact HC.out.2 (Conn.refl E v)
 }
 {
 have hb : ((v : Int) == (u : Int)) = false := beq_eq_false_iff_ne.2 (by omega)
 have Hne := Lib.hid hvu; clear hvu
 go_enter Tryz.func83, Tryz.ntmps83
 go_wp2_with fail
 refine HA.out.mono ?_
 rintro _ w ⟨rfl, rfl⟩
 go_wp2_with fail
 refine HB.out.mono ?_
 rintro _ w ⟨rfl, rfl⟩
 go_wp2_with fail
 refine (expose_v hL HF.out v (by omega)).mono ?_
 rintro _ w2 ⟨m1, τ1, l1, R1, rfl, hL1, hE1, hF1⟩
 have HE1 := Lib.hid hE1; clear hE1
 go_wp2_with fail
 refine (expose_v hL1 HE1.out.lf u (by omega)).mono ?_
 rintro _ w3 ⟨m2, τ2, l2, R2, rfl, hL2, hE2, hF2⟩
 have HE2 := Lib.hid hE2; clear hE2
 have a2 := hL2.nodes.c2 (v + 1) (by omega)
 have d1 := hL2.hd.cell 1
 simp only [List.getElem?_cons_zero, List.getElem?_cons_succ] at d1
 have hv2 : ((v + 1 : Nat) : Int) < ((n + 1 : Nat) : Int) := by omega
 have hres : ((τ2 (v + 1)).up ≠ 0) ↔ Conn E v u := by {
 rw [conn_rt HF.out.rtd HE.out]
 constructor
 {
 intro e
 apply Classical.byContradiction
 intro hc
 have h1 := HE2.out.frame (v + 1) hc
 rw [h1, (HE1.out.lf.rep _ (List.mem_cons_self)).1.2.1] at e
 exact e rfl
 }
 {
 intro e
 exact top_up HE2.out.lf (List.mem_cons_self) rfl (by simp [BT.root]) (by omega) (by omega) (by simp only [BT.root]; have := Hne.out; omega) e
 }
 }
 have Hres := Lib.hid hres; clear hres
 have hFr : Fr [g] w w3 := hF1.then hF2
 have hLG : LG w3 pf g n E key ed := ⟨cap, τ2, _, par, d, rt, hL2, HE2.out.lf, HE.out, fun x hx => by rw [HE2.out.key, HE1.out.key]; exact HK.out x hx⟩
 have HLG := Lib.hid hLG; clear hLG
 by_cases hup : (τ2 (v + 1)).up = 0
 {
 rw [hup] at a2
 have Hup := Lib.hid hup; clear hup
 go_wp2
 go_ret
 exact ⟨false, rfl, by simp only [Bool.false_eq_true, false_iff]; exact fun e => Hres.out.2 (HC.out.1 e) Hup.out, HLG.out, hFr⟩
 }
 {
 have hb0 : (((τ2 (v + 1)).up : Int) != 0) = true := bne_iff_ne.2 (by omega)
 have Hup := Lib.hid hup; clear hup
 go_wp2
 go_ret
 exact ⟨true, rfl, by simp only [true_iff]; exact HC.out.2 (Hres.out.1 Hup.out), HLG.out, hFr⟩
 }
 }
 }
 }
end Go.Proofs.YtgmnemndjjmgkaaGreat

/- lct: Size, Trees, Dist. -/
namespace Go.Proofs.YtgmnemndjjmgkaaGreat
open Go.RowKit
set_option maxRecDepth 10000
set_option maxHeartbeats 800000
theorem path_v {w : World} {pf g n cap : Nat} {σ : Tbl} {ed : Int} (h : LctAt w pf g (n + 1) cap σ ed) {par d rt : Nat → Nat} {F : Fst} (hF : LF (n + 1) σ F par d rt) (v u : Nat) (hv : v < n) (hu : u < n) :
    Calls Tryz.prog 132 #[.pointer (some ⟨pf, 0, none⟩), .int .i64 ((v : Int) + 1), .int .i64 ((u : Int) + 1)] w fun e w' => e = .returned (.tuple #[]) ∧ ∃ τ l R par' d' rt', LctAt w' pf g (n + 1) cap τ ed ∧ Pathed (n + 1) σ par rt (v + 1) (u + 1) τ l R par' d' rt' ∧ Fr [g] w w' :=
  path_w h hF (v + 1) (u + 1) (by omega) (by omega) (by omega) (by omega)
theorem Pathed.lg {w : World} {pf g n cap : Nat} {σ τ : Tbl} {E : Nat → Nat → Prop} {key : Nat → Int} {ed : Int} {par rt par' d' rt' : Nat → Nat} {i j : Nat} {l : BT} {R : Fst} (h : Pathed (n + 1) σ par rt i j τ l R par' d' rt') (hL : LctAt w pf g (n + 1) cap τ ed)
    (hE : ∀ v u, E v u ↔ Adj par (v + 1) (u + 1)) (hk : ∀ v, v < n → (σ (v + 1)).key = key v) : LG w pf g n E key ed :=
  ⟨cap, τ, _, par', d', rt', hL, h.lf, fun v u => (hE v u).trans (h.adj _ _).symm, fun v hv => by rw [h.key]; exact hk v hv⟩
theorem Pathed.at {n : Nat} {σ τ : Tbl} {E : Nat → Nat → Prop} {par rt par' d' rt' : Nat → Nat} {v u : Nat} {l : BT} {R : Fst} (h : Pathed (n + 1) σ par rt (v + 1) (u + 1) τ l R par' d' rt')
    (hE : ∀ v u, E v u ↔ Adj par (v + 1) (u + 1)) (hr : rt (v + 1) = rt (u + 1)) : ∃ p, IsPath E v u p ∧ p.map (· + 1) = l.seq ++ [u + 1] ∧ (∀ x ∈ p, x < n) := by
 obtain ⟨h1, h2⟩ := path_unshift hE (h.path hr)
 refine ⟨_, h1, h2, fun x hx => ?_⟩
 have : x + 1 ∈ l.seq ++ [u + 1] := by rw [← h2]; exact List.mem_map.2 ⟨x, hx, rfl⟩
 have hm : x + 1 ∈ (BT.node false l (u + 1) .nil).nodes := by rw [← seq_mem]; simpa [BT.seq] using this
 have := (h.lf.lt (List.mem_cons_self) hm).2
 omega
theorem size_w {w : World} {pf g n : Nat} {E : Nat → Nat → Prop} {key : Nat → Int} {ed : Int} (h : LG w pf g n E key ed) (a : Int) :
    Calls Tryz.prog 116 #[.pointer (some ⟨pf, 0, none⟩), .int .i64 a] w fun e w' => e = .returned (.int .i64 (if inV n a then (csize n E a.toNat : Int) else 0)) ∧ LG w' pf g n E key ed ∧ Fr [g] w w' := by
 have H := Lib.hid h
 obtain ⟨cap, σ, F, par, d, rt, hL, hF, hE, hk⟩ := h
 have HF := Lib.hid hF; clear hF
 have HE := Lib.hid hE; clear hE
 have HK := Lib.hid hk; clear hk
 have hN := hL.le
 have A1 := has_w hL a
 cases hva : inV n a with
 | false => {
 rw [hva] at A1
 have HA := Lib.hid A1; clear A1 hva
 go_enter Tryz.func116, Tryz.ntmps116
 go_wp2_with fail
 refine HA.out.mono ?_
 rintro _ w ⟨rfl, rfl⟩
 go_wp2
 go_ret
 exact ⟨rfl, H.out, Fr.refl _ _⟩
 }
 | true => {
 rw [hva] at A1
 have HA := Lib.hid A1; clear A1
 obtain ⟨v, rfl, hv⟩ := inV_nat hva
 clear hva
 go_enter Tryz.func116, Tryz.ntmps116
 go_wp2_with fail
 refine HA.out.mono ?_
 rintro _ w ⟨rfl, rfl⟩
 go_wp2_with fail
 refine (expose_v hL HF.out v hv).mono ?_
 rintro _ w2 ⟨m1, τ1, l1, R1, rfl, hL1, hE1, hF1⟩
 have hres : (τ1 (v + 1)).total = (csize n E v : Int) := by {
 have h1 := (hE1.lf.rep _ (List.mem_cons_self)).2.2.2.2.1
 have h2 := hE1.lf.size (x := v + 1) (by simp [BT.nodes])
 rw [h1, h2]
 have hp : (fnodes ((BT.node false l1 (v + 1) BT.nil, 0) :: R1)).Perm ((List.range n).map (· + 1)) := by {
 refine (List.perm_ext_iff_of_nodup hE1.lf.nd (nodup_map_succ.2 List.nodup_range)).2 (fun x => ?_)
 rw [hE1.lf.mem]
 simp only [List.mem_map, List.mem_range]
 exact ⟨fun h => ⟨x - 1, by omega, by omega⟩, fun ⟨y, hy, e⟩ => by omega⟩
 }
 have e : ((fnodes ((BT.node false l1 (v + 1) BT.nil, 0) :: R1)).filter (fun y => decide (rt y = rt (v + 1)))).length = csize n E v := by {
 rw [(hp.filter _).length_eq, List.filter_map, List.length_map]
 unfold Proofs.YtgmnemndjjmgkaaGreat.csize
 congr 1
 refine List.filter_congr (fun x _ => ?_)
 show decide (rt (x + 1) = rt (v + 1)) = _
 refine decide_eq_decide.2 ?_
 rw [conn_rt HF.out.rtd HE.out]; exact eq_comm
 }
 rw [e]
 have := csize_le n E v
 unfold wrap64; omega
 }
 have HE1 := Lib.hid hE1; clear hE1
 have a8 := hL1.nodes.c8 (v + 1) (by omega)
 rw [hres] at a8
 clear hres
 have d1 := hL1.hd.cell 1
 simp only [List.getElem?_cons_zero, List.getElem?_cons_succ] at d1
 have hv2 : ((v + 1 : Nat) : Int) < ((n + 1 : Nat) : Int) := by omega
 go_wp2
 go_ret
 exact ⟨rfl, ⟨cap, τ1, _, par, d, rt, hL1, HE1.out.lf, HE.out, fun x hx => by rw [HE1.out.key]; exact HK.out x hx⟩, hF1⟩
 }
def LM (w : World) (pf g n : Nat) (E : Nat → Nat → Prop) (key : Nat → Int) : Prop := LG w pf g n E key ((n : Int) - nc n E)
theorem dist_w {w : World} {pf g n : Nat} {E : Nat → Nat → Prop} {key : Nat → Int} {ed : Int} (h : LG w pf g n E key ed) (a b : Int) :
    Calls Tryz.prog 179 #[.pointer (some ⟨pf, 0, none⟩), .int .i64 a, .int .i64 b] w fun e w' => ∃ x : Int, e = .returned (.int .i64 x) ∧ ((¬ ConnI n E a b ∧ x = -1) ∨ ∃ (v u : Nat) (p : List Nat), a = v ∧ b = u ∧ v < n ∧ u < n ∧ IsPath E v u p ∧ x = (p.length : Int) - 1) ∧ LG w' pf g n E key ed ∧ Fr [g] w w' := by
 go_enter Tryz.func179, Tryz.ntmps179
 go_wp2_with fail
 refine (connected_w h a b).mono ?_
 rintro _ w2 ⟨r, rfl, hr, h2, hF2⟩
 have HR := Lib.hid hr; clear hr
 cases r with
 | false => {
 have H2 := Lib.hid h2; clear h2 h
 go_wp2
 go_ret
 exact ⟨-1, rfl, .inl ⟨fun e => (by have := HR.out.2 e; cases this), rfl⟩, H2.out, hF2⟩
 }
 | true => {
 obtain ⟨va, vb, hc⟩ := HR.out.1 rfl
 obtain ⟨v, rfl, hv⟩ := inV_nat va
 obtain ⟨u, rfl, hu⟩ := inV_nat vb
 clear va vb HR h
 obtain ⟨cap, σ, F, par, d, rt, hL, hF, hE, hk⟩ := h2
 have hrt := (conn_rt hF.rtd hE).1 hc
 have HF := Lib.hid hF; clear hF
 have HE := Lib.hid hE; clear hE
 have HK := Lib.hid hk; clear hk
 have hN := hL.le
 go_wp2_with fail
 refine (path_v hL HF.out v u hv hu).mono ?_
 rintro _ w3 ⟨rfl, τ, l, R, par', d', rt', hL3, hP, hF3⟩
 obtain ⟨p, hp1, hp2, hp3⟩ := hP.at HE.out hrt
 have hpl : (τ (u + 1)).size = (p.length : Int) ∧ p.length ≤ n ∧ 0 < p.length := by {
 have h1 := (hP.lf.rep _ (List.mem_cons_self)).2.2.2.1
 have h2 : (BT.node false l (u + 1) .nil).nodes.length = p.length := by {
 rw [← (BT.seq_perm _).length_eq]
 have := congrArg List.length hp2
 simpa [BT.seq] using this.symm
 }
 have h3 := nodup_le hp1.nd hp3
 have h4 : 0 < p.length := List.length_pos_iff.2 hp1.ne
 refine ⟨?_, h3, h4⟩
 rw [h1, h2]; unfold wrap64; omega
 }
 obtain ⟨q1, q2, q3⟩ := hpl
 have a5 := hL3.nodes.c5 (u + 1) (by omega)
 rw [q1] at a5
 have HP := Lib.hid hP; clear hP
 have Hp := Lib.hid hp1; clear hp1 hp2 hp3 q1
 have d1 := hL3.hd.cell 1
 simp only [List.getElem?_cons_zero, List.getElem?_cons_succ] at d1
 have hu2 : ((u + 1 : Nat) : Int) < ((n + 1 : Nat) : Int) := by omega
 go_wp2
 go_ret
 exact ⟨_, rfl, .inr ⟨v, u, p, rfl, rfl, hv, hu, Hp.out, rfl⟩, HP.out.lg hL3 HE.out HK.out, hF2.then hF3⟩
 }
end Go.Proofs.YtgmnemndjjmgkaaGreat

/- lct: Min. -/
namespace Go.Proofs.YtgmnemndjjmgkaaGreat
open Go.RowKit
set_option maxRecDepth 10000
set_option maxHeartbeats 800000
def FirstOf (key : Nat → Int) (p : List Nat) (m : Nat) : Prop := m ∈ p ∧ ∀ x ∈ p, x ≠ m → key m < key x ∨ (key m = key x ∧ m < x)
theorem min_w {w : World} {pf g n : Nat} {E : Nat → Nat → Prop} {key : Nat → Int} {ed : Int} (h : LG w pf g n E key ed) (a b : Int) : Calls Tryz.prog 82 #[.pointer (some ⟨pf, 0, none⟩), .int .i64 a, .int .i64 b] w fun e w' => ((¬ ConnI n E a b ∧ e = .returned (.tuple #[.int .i64 0, .bool false])) ∨ ∃ (v u : Nat) (p : List Nat) (m : Nat), a = v ∧ b = u ∧ v < n ∧ u < n ∧ IsPath E v u p ∧ (∀ x ∈ p, x < n) ∧ FirstOf key p m ∧ e = .returned (.tuple #[.int .i64 m, .bool true])) ∧ LG w' pf g n E key ed ∧ Fr [g] w w' := by
 go_enter Tryz.func82, Tryz.ntmps82
 go_wp2_with fail
 refine (connected_w h a b).mono ?_
 rintro _ w2 ⟨r, rfl, hr, h2, hF2⟩
 have HR := Lib.hid hr; clear hr
 cases r with
 | false => {
 have H2 := Lib.hid h2; clear h2 h
 go_wp2
 go_ret2
 exact ⟨.inl ⟨fun e => (by have := HR.out.2 e; cases this), rfl⟩, H2.out, hF2⟩
 }
 | true => {
 obtain ⟨va, vb, hc⟩ := HR.out.1 rfl
 obtain ⟨v, rfl, hv⟩ := inV_nat va
 obtain ⟨u, rfl, hu⟩ := inV_nat vb
 clear va vb HR h
 obtain ⟨cap, σ, F, par, d, rt, hL, hF, hE, hk⟩ := h2
 have hrt := (conn_rt hF.rtd hE).1 hc
 have HF := Lib.hid hF; clear hF
 have HE := Lib.hid hE; clear hE
 have HK := Lib.hid hk; clear hk
 have hN := hL.le
 go_wp2_with fail
 refine (path_v hL HF.out v u hv hu).mono ?_
 rintro _ w3 ⟨rfl, τ, l, R, par', d', rt', hL3, hP, hF3⟩
 obtain ⟨p, hp1, hp2, hp3⟩ := hP.at HE.out hrt
 have hbest : ∃ m, (τ (u + 1)).first = m + 1 ∧ m < n ∧ FirstOf key p m := by {
 have h1 := (hP.lf.rep _ (List.mem_cons_self)).2.2.2.2.2
 have hmem : ∀ x, x ∈ (BT.node false l (u + 1) .nil).nodes ↔ x ∈ p.map (· + 1) := by intro x; rw [← seq_mem, hp2]; simp [BT.seq]
 have hkey : ∀ x, x < n → (τ (x + 1)).key = key x := fun x hx => by rw [hP.key]; exact HK.out x hx
 obtain ⟨m, hm, e⟩ := List.mem_map.1 ((hmem _).1 h1.1)
 refine ⟨m, e.symm, hp3 m hm, hm, fun x hx hne => ?_⟩
 have := h1.2 (x + 1) ((hmem _).2 (List.mem_map.2 ⟨x, hx, rfl⟩)) (by rw [← e]; omega)
 rw [← e] at this
 unfold beforeB at this
 rw [hkey m (hp3 m hm), hkey x (hp3 x hx)] at this
 simp only [Bool.or_eq_true, Bool.and_eq_true, decide_eq_true_eq] at this
 omega
 }
 obtain ⟨m, q1, q2, q3⟩ := hbest
 have a6 := hL3.nodes.c6 (u + 1) (by omega)
 rw [q1] at a6
 have HP := Lib.hid hP; clear hP
 have Hp := Lib.hid (And.intro hp1 (And.intro hp3 q3)); clear hp1 hp2 hp3 q1 q3
 have d1 := hL3.hd.cell 1
 simp only [List.getElem?_cons_zero, List.getElem?_cons_succ] at d1
 have hu2 : ((u + 1 : Nat) : Int) < ((n + 1 : Nat) : Int) := by omega
 have hw1 : ((m + 1 : Nat) : Int) - 1 = m := by omega
 go_wp2
 go_ret2
 exact ⟨.inr ⟨v, u, p, m, rfl, rfl, hv, hu, Hp.out.1, Hp.out.2.1, Hp.out.2.2, rfl⟩, HP.out.lg hL3 HE.out HK.out, hF2.then hF3⟩
 }
end Go.Proofs.YtgmnemndjjmgkaaGreat

/- lct: check and Link. -/
namespace Go.Proofs.YtgmnemndjjmgkaaGreat
open Go.RowKit Classical
set_option maxRecDepth 10000
set_option maxHeartbeats 800000
theorem check_w {w : World} {pf g n cap : Nat} {σ : Tbl} {ed : Int} (h : LctAt w pf g (n + 1) cap σ ed) (b m : Nat) (f : Nat → Int) (hm : m ≤ 100) (hb : ∀ k, k < m → w.cell? ⟨b, k, none⟩ = some (.int .i64 (f k))) :
    Calls Tryz.prog 178 #[.pointer (some ⟨pf, 0, none⟩), .slice (some ⟨b, 0, none⟩) m m] w fun e w' => ((e = .returned (.int .i64 0) ∧ ∀ k, k < m → inV n (f k) = true) ∨ (e = .returned (.int .i64 3) ∧ ∃ k, k < m ∧ inV n (f k) = false)) ∧ w' = w := by
 have c0 := h.hd.cell 0
 simp only [List.getElem?_cons_zero] at c0
 have hV := Lib.hid (valid_w c0)
 clear c0
 have HB := Lib.hid hb; clear hb
 go_enter Tryz.func178, Tryz.ntmps178
 go_wp2_with fail
 refine hV.out.mono ?_
 rintro _ w ⟨rfl, rfl⟩
 go_wp2
 go_loopw [12] (fun x wr => ∃ k : Nat, k ≤ m ∧ x = .int .i64 k ∧ wr = w ∧ ∀ j, j < k → inV n (f j) = true) (fun x _ => m - (intOf x).toNat)
 case atStart => exact ⟨0, Nat.zero_le _, rfl, rfl, fun j hj => by omega⟩
 case round =>
  obtain ⟨k, hk, rfl, rfl, hall⟩ := hrel
  have Hall := Lib.hid hall; clear hall
  by_cases hlt : k < m
  {
  have hc := HB.out k hlt
  have hA := has_w h (f k)
  cases hv : inV n (f k) with
  | true => {
  rw [hv] at hA
  have HA := Lib.hid hA; clear hA
  have Hv := Lib.hid hv; clear hv
  go_wp2_with fail
  refine HA.out.mono ?_
  rintro _ w0 ⟨rfl, rfl⟩
  go_wp2
  exact ⟨⟨k + 1, by omega, by go_num, trivial, fun j hj => by
    by_cases e : j = k
    · rw [e]; exact Hv.out
    · exact Hall.out j (by omega)⟩, by simp [intOf]; omega⟩
  }
  | false => {
  rw [hv] at hA
  have HA := Lib.hid hA; clear hA
  have Hv := Lib.hid hv; clear hv
  go_wp2_with fail
  refine HA.out.mono ?_
  rintro _ w0 ⟨rfl, rfl⟩
  go_wp2
  go_ret
  exact ⟨.inr ⟨rfl, k, hlt, Hv.out⟩, rfl⟩
  }
  }
  {
  go_wp2
  go_ret
  exact ⟨.inl ⟨rfl, fun j hj => Hall.out j (by omega)⟩, rfl⟩
  }
theorem lead_v {w : World} {pf g n cap : Nat} {σ : Tbl} {ed : Int} (h : LctAt w pf g (n + 1) cap σ ed) {par d rt : Nat → Nat} {F : Fst} (hF : LF (n + 1) σ F par d rt) (v : Nat) (hv : v < n) :
    Calls Tryz.prog 172 #[.pointer (some ⟨pf, 0, none⟩), .int .i64 ((v : Int) + 1)] w fun e w' => e = .returned (.tuple #[]) ∧ ∃ τ l R par' d' rt', LctAt w' pf g (n + 1) cap τ ed ∧ LF (n + 1) τ ((.node true l (v + 1) .nil, 0) :: R) par' d' rt' ∧ (∀ x, (τ x).key = (σ x).key) ∧
      (∀ x y, Adj par' x y ↔ Adj par x y) ∧ (∀ x y, rt' x = rt' y ↔ rt x = rt y) ∧ rt' (v + 1) = v + 1 ∧ Fr [g] w w' := lead_w h hF (v + 1) (by omega) (by omega)
theorem refresh_v {w : World} {pf g n cap : Nat} {σ : Tbl} {ed : Int} (h : LctAt w pf g (n + 1) cap σ ed) (v : Nat) (hv : v < n) (hR : InR (n + 1) σ) (h0 : (σ (v + 1)).k0 ≠ v + 1) (h1 : (σ (v + 1)).k1 ≠ v + 1) :
    Calls Tryz.prog 174 #[.pointer (some ⟨pf, 0, none⟩), .int .i64 ((v : Int) + 1)] w fun e w' => e = .returned (.tuple #[]) ∧ LctAt w' pf g (n + 1) cap (refresh σ (v + 1)) ed ∧ Fr [g] w w' := refresh_w h (v + 1) (by omega) hR h0 h1
theorem LctAt.edges {w w0 : World} {pf g N cap : Nat} {σ : Tbl} {ed : Int} (h : LctAt w pf g N cap σ ed) (hF : Fr [g] w0 w) (e : Int) :
    LctAt (w.setCell ⟨pf, 2, none⟩ (.int .i64 e)) pf g N cap σ e ∧ Fr [pf, g] w0 (w.setCell ⟨pf, 2, none⟩ (.int .i64 e)) := by
 refine ⟨⟨?_, h.nodes.same (Below.heap_setCell _ _ _ _ (fun e => h.ne e.symm)), h.ne, h.le, h.cap⟩, (hF.mono (S' := [pf, g]) (fun b hb => .inl (by simp at hb; simp [hb]))).setCell _ _ (.inl (by simp))⟩
 have := h.hd.set 2 (.int .i64 e)
 simpa using this
noncomputable def linkCode (n : Nat) (E : Nat → Nat → Prop) (a b : Int) : Int :=
  if inV n a = true ∧ inV n b = true then (if a = b then 9 else if Conn E a.toNat b.toNat then 6 else 0) else 3
noncomputable def linkE (n : Nat) (E : Nat → Nat → Prop) (a b : Int) : Nat → Nat → Prop := if linkCode n E a b = 0 then addE E a.toNat b.toNat else E
theorem link_w {w : World} {pf g n : Nat} {E : Nat → Nat → Prop} {key : Nat → Int} (h : LM w pf g n E key) (a b : Int) :
    Calls Tryz.prog 197 #[.pointer (some ⟨pf, 0, none⟩), .int .i64 a, .int .i64 b] w fun e w' => e = .returned (.int .i64 (linkCode n E a b)) ∧ LM w' pf g n (linkE n E a b) key ∧ Fr [pf, g] w w' := by
  have H := Lib.hid h
  have hfrs := Lib.hid (LG.frs h)
  obtain ⟨hp1, hg1, hn1⟩ := LG.lts h
  obtain ⟨cap, σ, F, par, d, rt, hL, hF, hE, hk⟩ := h
  clear hF hE hk
  have hLa : LctAt (w.alloc (.cells #[.int .i64 a, .int .i64 b] 3)) pf g (n + 1) cap σ ((n : Int) - nc n E) := hL.below ((Below.refl _ w).alloc (Nat.le_refl _) _) hp1 hg1
  have hblk := Blk.new w [.int .i64 a, .int .i64 b] 3
  have hFa : Fr [] w (w.alloc (.cells #[.int .i64 a, .int .i64 b] 3)) := (Fr.refl _ _).alloc _
  have HMa := Lib.hid (LG.fr H.out hFa (by simp) (by simp))
  have hCk := check_w hLa w.heap.size 2 (fun k => if k = 0 then a else b) (by decide) (fun k hk => by
    rw [hblk.cell]
    rcases (show k = 0 ∨ k = 1 by omega) with rfl | rfl <;> rfl)
  have HCk := Lib.hid hCk; clear hCk hblk
  clear hLa hL
  go_enter Tryz.func197, Tryz.ntmps197
  go_wp2_with fail
  refine HCk.out.mono ?_
  rintro _ w1 ⟨hcode, rfl⟩
  clear HCk
  generalize w.alloc (.cells #[.int .i64 a, .int .i64 b] 3) = w1 at *
  rcases hcode with ⟨rfl, hall⟩ | ⟨rfl, k, hk, hbad⟩
  · have va : inV n a = true := hall 0 (by decide)
    have vb : inV n b = true := hall 1 (by decide)
    clear hall
    by_cases hab : a = b
    · have hlc : linkCode n E a b = 9 := by unfold linkCode; rw [if_pos ⟨va, vb⟩, if_pos hab]
      have hle : linkE n E a b = E := by unfold linkE; rw [hlc]; simp
      have Hlc := Lib.hid (And.intro hlc hle); clear hlc hle
      have hb : (a == b) = true := beq_iff_eq.2 hab
      clear va vb hab
      go_wp2
      go_ret
      rw [Hlc.out.1, Hlc.out.2]
      exact ⟨rfl, HMa.out, hFa.mono (by simp)⟩
    · have hb : (a == b) = false := beq_eq_false_iff_ne.2 hab
      have HL0 := Lib.hid (And.intro va (And.intro vb hab)); clear hab
      go_wp2_with fail
      refine (connected_w HMa.out a b).mono ?_
      rintro _ w2 ⟨r, rfl, hr, hM2, hF2⟩
      cases r with
      | true =>
        obtain ⟨_, _, hc⟩ := hr.1 rfl
        have hlc : linkCode n E a b = 6 := by unfold linkCode; rw [if_pos ⟨va, vb⟩, if_neg HL0.out.2.2, if_pos hc]
        have hle : linkE n E a b = E := by unfold linkE; rw [hlc]; simp
        have Hlc := Lib.hid (And.intro hlc hle); clear hlc hle hr
        have HM2 := Lib.hid hM2; clear hM2 va vb hc
        go_wp2
        go_ret
        rw [Hlc.out.1, Hlc.out.2]
        exact ⟨rfl, HM2.out, (hFa.mono (S' := [pf, g]) (by simp)).trans hF2 (fun q hq => .inl (by simp at hq; simp [hq]))⟩
      | false =>
        have hnc : ¬ Conn E a.toNat b.toNat := fun e => by have := hr.2 ⟨va, vb, e⟩; cases this
        have hlc : linkCode n E a b = 0 := by unfold linkCode; rw [if_pos ⟨va, vb⟩, if_neg HL0.out.2.2, if_neg hnc]
        have hle : linkE n E a b = addE E a.toNat b.toNat := by unfold linkE; rw [hlc]; simp
        have Hlc := Lib.hid (And.intro hlc hle); clear hlc hle hr
        obtain ⟨v, rfl, hv⟩ := inV_nat va
        obtain ⟨u, rfl, hu⟩ := inV_nat vb
        simp only [Int.toNat_natCast] at hnc Hlc
        have HN := Lib.hid hnc
        clear va vb HL0
        obtain ⟨cap2, σ2, F2, par2, d2, rt2, hL2, hLF2, hE2, hk2⟩ := hM2
        have hrt : rt2 (v + 1) ≠ rt2 (u + 1) := fun e => hnc ((conn_rt hLF2.rtd hE2).2 e)
        clear hnc
        have HF2 := Lib.hid hLF2; clear hLF2
        have HE2 := Lib.hid hE2; clear hE2
        have HK2 := Lib.hid hk2; clear hk2
        have HRt := Lib.hid hrt; clear hrt
        have hN := hL2.le
        go_wp2_with fail
        refine (lead_v hL2 HF2.out v hv).mono ?_
        rintro _ w3 ⟨rfl, τ3, l3, R3, par3, d3, rt3, hL3, hLF3, hk3, hadj3, hrt3, hri3, hF3⟩
        have HF3 := Lib.hid hLF3; clear hLF3
        have HQ3 := Lib.hid (And.intro hk3 (And.intro hadj3 (And.intro hrt3 hri3))); clear hk3 hadj3 hrt3 hri3
        go_wp2_with fail
        refine (expose_v hL3 HF3.out u hu).mono ?_
        rintro _ w4 ⟨m4, τ4, l4, R4, rfl, hL4, hE4, hF4⟩
        have key : (∃ par' d' rt' F', LF (n + 1) (refresh (lnk2 τ4 (v + 1) (u + 1)) (u + 1)) F' par' d' rt' ∧ (∀ x y, Adj par' x y ↔ Adj par2 x y ∨ (x = v + 1 ∧ y = u + 1) ∨ (x = u + 1 ∧ y = v + 1))) ∧
            (∀ x, (refresh (lnk2 τ4 (v + 1) (u + 1)) (u + 1) x).key = (σ2 x).key) ∧ (lnk2 τ4 (v + 1) (u + 1) (u + 1)).k0 ≠ u + 1 ∧ (lnk2 τ4 (v + 1) (u + 1) (u + 1)).k1 ≠ u + 1 ∧ InR (n + 1) (lnk2 τ4 (v + 1) (u + 1)) := by
          obtain ⟨hk3, hadj3, hrt3, hri3⟩ := HQ3.out
          have hne3 : rt3 (v + 1) ≠ rt3 (u + 1) := fun e => HRt.out ((hrt3 _ _).1 e)
          have hin := hE4.trees _ (List.mem_cons_self) ⟨v + 1, by simp [BT.nodes], hne3⟩
          obtain ⟨R5, hR5⟩ := mem_split_perm hin
          have hlf := hE4.lf.perm ((List.Perm.cons _ hR5).trans (List.Perm.swap _ _ _))
          obtain ⟨⟨par', d', rt', a1, a2⟩, a3, a4, a5, a6⟩ := hlf.link (a := v + 1) rfl (by omega) hri3 (fun e => hne3 (by rw [hri3, e]))
          exact ⟨⟨par', d', rt', _, a1, fun x y => by rw [a2, hadj3]⟩, fun x => by rw [a3, hE4.key, hk3], a4, a5, a6⟩
        have Key := Lib.hid key; clear key hE4
        have d4 := hL4.hd.cell 1
        simp only [List.getElem?_cons_zero, List.getElem?_cons_succ] at d4
        have hfz4 := hL4.nodes.frozen
        have a2 := hL4.nodes.c2 (v + 1) (by omega)
        obtain ⟨hL5, hF5⟩ := hL4.st2 (Fr.refl [g] w4) (i := v + 1) (by omega) (u + 1)
        have hL5' : LctAt (w4.setCell ⟨g, (v + 1) * 9 + 2, none⟩ (.int .i64 ((u : Int) + 1))) pf g (n + 1) cap2 (lnk1 τ4 (v + 1) (u + 1)) ((n : Int) - nc n E) := hL5
        have hF5' : Fr [g] w4 (w4.setCell ⟨g, (v + 1) * 9 + 2, none⟩ (.int .i64 ((u : Int) + 1))) := hF5
        have HL5 := Lib.hid hL5'; clear hL5 hL5' hF5
        have hv2 : ((v + 1 : Nat) : Int) < ((n + 1 : Nat) : Int) := by omega
        have hu2 : ((u + 1 : Nat) : Int) < ((n + 1 : Nat) : Int) := by omega
        go_wp2
        generalize w4.setCell ⟨g, (v + 1) * 9 + 2, none⟩ (.int .i64 ((u : Int) + 1)) = w5 at *
        have hL5 := HL5.out
        clear HL5 d4 hfz4 a2
        have d5 := hL5.hd.cell 1
        simp only [List.getElem?_cons_zero, List.getElem?_cons_succ] at d5
        have hfz5 := hL5.nodes.frozen
        have b7 := hL5.nodes.c7 (u + 1) (by omega)
        have b8 := hL5.nodes.c8 (v + 1) (by omega)
        have hwu : IntKind.i64.wrap ((u : Int) + 1) = (u : Int) + 1 := IntWalk.i64_in _ (by omega)
        have hwv : IntKind.i64.wrap ((v : Int) + 1) = (v : Int) + 1 := IntWalk.i64_in _ (by omega)
        have htu : ((u : Int) + 1).toNat = u + 1 := by omega
        have htv : ((v : Int) + 1).toNat = v + 1 := by omega
        have hcu : 0 ≤ (u : Int) + 1 := by omega
        have hcv : 0 ≤ (v : Int) + 1 := by omega
        have hcu2 : (u : Int) + 1 < (n : Int) + 1 := by omega
        have hcv2 : (v : Int) + 1 < (n : Int) + 1 := by omega
        refine region_one 21 (fun w' => LctAt w' pf g (n + 1) cap2 (lnk2 τ4 (v + 1) (u + 1)) ((n : Int) - nc n E) ∧ Fr [g] w5 w') (by kernel_rfl) (by kernel_rfl) (by kernel_rfl) ?_
        iterate 21 (refine gWalk_pre (by decide) (fun K hK => ?_); go_simp; refine hK _ ?_; clear hK K)
        refine gWalk_write rfl undef (fun w' hw' => ?_) ?_
        · obtain ⟨nq, rfl⟩ := hw'
          go_simp
          rw [iw64]
          exact (hL5.eqv (Eqv.drewN w5 nq)).st7 ((Fr.refl [g] w5).drewN nq) (i := u + 1) (by omega) _
        refine gWalk_nil ?_
        rintro w6 ⟨hL6, hF6⟩
        clear b7 b8 d5 hfz5
        go_wp2_with fail
        refine (refresh_v hL6 u hu Key.out.2.2.2.2 Key.out.2.2.1 Key.out.2.2.2.1).mono ?_
        rintro _ w7 ⟨rfl, hL7, hF7⟩
        have c7 := hL7.hd.cell 2
        simp only [List.getElem?_cons_zero, List.getElem?_cons_succ] at c7
        have hfz7 := hL7.hd.frozen 2
        obtain ⟨par', d', rt', F', q1, q2⟩ := Key.out.1
        have hAE : ∀ x y, addE E v u x y ↔ Adj par' (x + 1) (y + 1) := by
          intro x y
          rw [q2]
          unfold addE
          rw [HE2.out x y]
          simp only [Nat.add_right_cancel_iff]
        have hcnt := nc_add (n := n) hfrs.out ⟨par', d', rt', q1.rtd, hAE⟩ HN.out hv hu
        have hnc1 := nc_le n (addE E v u)
        have hed : IntKind.i64.wrap ((n : Int) - nc n E + 1) = (n : Int) - nc n (addE E v u) := by
          rw [show (n : Int) - nc n E + 1 = (n : Int) - nc n (addE E v u) by omega]; exact IntWalk.i64_in _ (by omega)
        obtain ⟨hL8, hF8⟩ := hL7.edges (hF2.then (hF3.then (hF4.then (hF5'.then (hF6.then hF7))))) ((n : Int) - nc n (addE E v u))
        have Hfin := Lib.hid (show LM _ pf g n (addE E v u) key from ⟨cap2, _, F', par', d', rt', hL8, q1, hAE, fun x hx => by rw [Key.out.2.1]; exact HK2.out x hx⟩)
        have hnq : nc n E = nc n (addE E v u) + 1 := hcnt.symm
        rw [hnq] at c7
        have hed2 : (n : Int) - ((nc n (addE E v u) + 1 : Nat) : Int) + 1 = (n : Int) - nc n (addE E v u) := by omega
        clear hL8 q1 q2 hAE hcnt hnq hed Key
        generalize nc n (addE E v u) = z at *
        go_wp2
        go_ret
        rw [Hlc.out.1, Hlc.out.2]
        have e : (n : Int) - ((z : Int) + 1) + 1 = (n : Int) - z := by omega
        rw [e]
        exact ⟨rfl, Hfin.out, (hFa.mono (S' := [pf, g]) (by simp)).trans hF8 (fun q hq => .inl hq)⟩
  · have hlc : linkCode n E a b = 3 := by
      unfold linkCode; rw [if_neg]
      rintro ⟨h1, h2⟩
      rcases (show k = 0 ∨ k = 1 by omega) with rfl | rfl
      · have hbad : inV n a = false := hbad; rw [h1] at hbad; cases hbad
      · have hbad : inV n b = false := hbad; rw [h2] at hbad; cases hbad
    have hle : linkE n E a b = E := by unfold linkE; rw [hlc]; simp
    have Hlc := Lib.hid (And.intro hlc hle); clear hlc hle hbad
    go_wp2
    go_ret
    rw [Hlc.out.1, Hlc.out.2]
    exact ⟨rfl, HMa.out, hFa.mono (by simp)⟩
end Go.Proofs.YtgmnemndjjmgkaaGreat

/- lct: New. -/
namespace Go.Proofs.YtgmnemndjjmgkaaGreat
open Go.RowKit
set_option maxRecDepth 10000
set_option maxHeartbeats 800000
theorem new_no (n : Int) (w : World) (h : n < 0 ∨ 65536 < n) :
    Calls Tryz.prog 166 #[.int .i64 n] w fun e w' => e = .returned (.tuple #[.pointer none, .int .i64 2]) ∧ w' = w := by
 rcases h with h | h
 {
 go_enter Tryz.func166, Tryz.ntmps166
 go_wp2
 go_ret2
 exact ⟨rfl, rfl⟩
 }
 {
 have h0 : ¬ n < 0 := by omega
 go_enter Tryz.func166, Tryz.ntmps166
 go_wp2
 go_ret2
 exact ⟨rfl, rfl⟩
 }
def nd0 : Nd := { k0 := 0, k1 := 0, up := 0, flip := false, key := 0, size := 0, first := 0, light := 0, total := 0 }
def ndv : Value := .agg #[.int .i64 0, .int .i64 0, .int .i64 0, .bool false, .int .i64 0, .int .i64 0, .int .i64 0, .int .i64 0, .int .i64 0]
theorem Tryz.info191 : (Tryz.prog.info? 191).map (fun i => (i.zero, i.size, i.bytes)) = some (some ndv, 9, 72) := by kernel_rfl
theorem ndv_cells : ndv.cells = #[.int .i64 0, .int .i64 0, .int .i64 0, .bool false, .int .i64 0, .int .i64 0, .int .i64 0, .int .i64 0, .int .i64 0] := by kernel_rfl
theorem made_nodes (N i f : Nat) (hi : i < N) (hf : f < 9) : (madeCells ndv.cells (N * 9))[i * 9 + f]? = some (fv nd0 f) := by
 rw [ndv_cells]
 unfold madeCells
 have hlt : i * 9 + f < N * 9 := by omega
 have : (i * 9 + f) % 9 = f := by omega
 simp only [Array.getElem?_map, Array.getElem?_range, hlt, if_true, Option.map_some]
 show some (_[(i * 9 + f) % 9]!) = _
 rw [this]
 match f, hf with
 | 0, _ => rfl
 | 1, _ => rfl
 | 2, _ => rfl
 | 3, _ => rfl
 | 4, _ => rfl
 | 5, _ => rfl
 | 6, _ => rfl
 | 7, _ => rfl
 | 8, _ => rfl
def zeroNodes (m : Nat) : Array Value := madeCells ndv.cells (m * 9)
theorem run_make_nodes (n : Nat) (w : World) (hn : n ≤ 1048576) : (Instr.makeSlice 192 (.int .i64 n) (.int .i64 n)).run Tryz.prog w = .ok (.slice (some ⟨w.heap.size, 0, none⟩) n n) (w.alloc (.cells (zeroNodes n) 191)) := by
 obtain ⟨i0, hi, hz0, hz1, hz2⟩ := info_parts Tryz.info191
 have h := run_make (P := Tryz.prog) w 192 191 i0 ndv Tryz.underlying192 hi hz0 .i64 .i64 n n (by omega) (by omega) (by rw [hz2]; omega) (by omega)
 rw [hz1] at h
 simp only [Int.toNat_natCast] at h
 exact h
def newT (k : Nat) : Tbl := fun i => if 0 < i ∧ i ≤ k then { nd0 with size := 1, first := i, total := 1 } else nd0
theorem newT_succ (k : Nat) : refresh (newT k) (k + 1) = newT (k + 1) := by
 have h0 : (newT k (k + 1)).k0 = 0 ∧ (newT k (k + 1)).k1 = 0 ∧ newT k (k + 1) = nd0 := by {
 have : newT k (k + 1) = nd0 := by unfold newT; rw [if_neg (by omega)]
 rw [this]; exact ⟨rfl, rfl, rfl⟩
 }
 have e : refresh (newT k) (k + 1) = ref0 (newT k) (k + 1) := by {
 show refKid (refKid (ref0 (newT k) (k + 1)) (k + 1) (newT k (k + 1)).k0) (k + 1) (newT k (k + 1)).k1 = _
 rw [h0.1, h0.2.1]; rfl
 }
 rw [e]
 funext i
 unfold ref0
 by_cases hi : i = k + 1
 {
 subst hi
 rw [upd_same, h0.2.2]
 unfold newT; rw [if_pos (by omega)]
 simp [nd0, wrap64]
 }
 {
 rw [upd_other hi]
 unfold newT
 by_cases h1 : 0 < i ∧ i ≤ k
 · rw [if_pos h1, if_pos (by omega)]
 · rw [if_neg h1, if_neg (by omega)]
 }
theorem newT_inR (k N : Nat) (_hk : k < N) : InR N (newT k) := by
 intro i hi
 unfold newT
 split
 · exact ⟨by show 0 < N; omega, by show 0 < N; omega, by show 0 < N; omega, hi⟩
 · exact ⟨by show 0 < N; omega, by show 0 < N; omega, by show 0 < N; omega, by show 0 < N; omega⟩
theorem new_w (n : Nat) (w : World) (h : n ≤ 65536) :
    Calls Tryz.prog 166 #[.int .i64 n] w fun e w' => ∃ pf g, e = .returned (.tuple #[.pointer (some ⟨pf, 0, none⟩), .int .i64 0]) ∧ LM w' pf g n (fun _ _ => False) (fun _ => 0) ∧ Fr [] w w' ∧ w.heap.size ≤ pf ∧ w.heap.size ≤ g := by
 have hmk : ∀ W : World, (Instr.makeSlice 192 (.int .i64 ((n : Int) + 1)) (.int .i64 ((n : Int) + 1))).run Tryz.prog W = .ok (.slice (some ⟨W.heap.size, 0, none⟩) (n + 1) (n + 1)) (W.alloc (.cells (zeroNodes (n + 1)) 191)) := fun W => run_make_nodes (n + 1) W (by omega)
 have h0 : ¬ ((n : Int) < 0) := by omega
 have h1 : ¬ (65536 < (n : Int)) := by omega
 go_enter Tryz.func166, Tryz.ntmps166
 go_wp2
 obtain ⟨W0, hW0⟩ : ∃ W0, (w.alloc (.cells (zeroNodes (n + 1)) 191)).alloc (.cells #[.pointer (some ⟨w.heap.size + 1, 0, none⟩), .slice (some ⟨w.heap.size, 0, none⟩) (n + 1) (n + 1), .int .i64 0] 194) = W0 := ⟨_, rfl⟩
 have hL0 : LctAt W0 (w.heap.size + 1) w.heap.size (n + 1) (n + 1) (newT 0) 0 := by {
 subst hW0
 refine ⟨?_, ?_, by omega, by omega, Nat.le_refl _⟩
 {
 have := Blk.new (w.alloc (.cells (zeroNodes (n + 1)) 191)) [.pointer (some ⟨w.heap.size + 1, 0, none⟩), .slice (some ⟨w.heap.size, 0, none⟩) (n + 1) (n + 1), .int .i64 0] 194
 rw [World.size_alloc] at this; exact this
 }
 {
 refine ⟨zeroNodes (n + 1), ?_, by simp [zeroNodes, size_madeCells], fun i hi f hf => ?_⟩
 · exact (Below.heap_alloc _ _ _ (by simp)).trans (World.alloc_heap_new w _)
 {
 have : newT 0 i = nd0 := by unfold newT; rw [if_neg (by omega)]
 rw [this]; exact made_nodes (n + 1) i f hi hf
 }
 }
 }
 have hF0 : Fr [] w W0 := by subst hW0; exact ((Fr.refl _ _).alloc _).alloc _
 rw [hW0]
 clear hW0 hmk
 go_loopw [22] (fun x wr => ∃ k : Nat, k ≤ n ∧ x = .int .i64 k ∧ LctAt wr (w.heap.size + 1) w.heap.size (n + 1) (n + 1) (newT k) 0 ∧ Fr [] w wr) (fun x _ => n - (intOf x).toNat)
 case atStart => exact ⟨0, Nat.zero_le _, rfl, hL0, hF0⟩
 case round =>
  clear hL0 hF0
  obtain ⟨k, hk, rfl, hL, hF⟩ := hrel
  by_cases hlt : k < n
  {
  have hz : newT k (k + 1) = nd0 := by unfold newT; rw [if_neg (by omega)]
  have HQ := Lib.hid (show (newT k (k + 1)).k0 ≠ k + 1 ∧ (newT k (k + 1)).k1 ≠ k + 1 by rw [hz]; simp [nd0])
  clear hz
  go_wp2_with fail
  refine (refresh_v hL k hlt (newT_inR k (n + 1) (by omega)) HQ.out.1 HQ.out.2).mono ?_
  rintro _ w2 ⟨rfl, hL2, hF2⟩
  rw [newT_succ] at hL2
  go_wp2
  exact ⟨⟨k + 1, by omega, by go_num, hL2, hF.trans hF2 (fun b hb => .inr (by simp at hb; omega))⟩, by simp [intOf]; omega⟩
  }
  {
  obtain rfl : k = n := by omega
  go_wp2
  go_ret2
  have hv : ∀ x, 0 < x → x < k + 1 → newT k x = { nd0 with size := 1, first := x, total := 1 } := fun x h1 h2 => by unfold newT; rw [if_pos (by omega)]
  have h00 : newT k 0 = nd0 := by unfold newT; rw [if_neg (by omega)]
  have hlf := LF.new k (newT k) (by rw [h00]; simp [nd0]) (fun x h1 h2 => by rw [hv x h1 h2]; simp [nd0])
  refine ⟨w.heap.size + 1, w.heap.size, rfl, ⟨k + 1, newT k, _, _, _, _, ?_, hlf, fun v u => ?_, fun v hv' => ?_⟩, hF, by omega, Nat.le_refl _⟩
  · rw [nc_none]; simpa using hL
  · simp [Adj]
  · rw [hv (v + 1) (by omega) (by omega)]; rfl
  }
end Go.Proofs.YtgmnemndjjmgkaaGreat

/- lct: the answers as functions of the forest. -/
namespace Go.Proofs.YtgmnemndjjmgkaaGreat
open Go.RowKit Classical
set_option maxRecDepth 10000
set_option maxHeartbeats 800000
noncomputable def connB (n : Nat) (E : Nat → Nat → Prop) (a b : Int) : Bool := decide (ConnI n E a b)
noncomputable def thePath (E : Nat → Nat → Prop) (a b : Nat) : List Nat := if h : Conn E a b then Classical.choose h else []
noncomputable def distI (n : Nat) (E : Nat → Nat → Prop) (a b : Int) : Int := if ConnI n E a b then ((thePath E a.toNat b.toNat).length : Int) - 1 else -1
section
variable {E : Nat → Nat → Prop} {a b c : Nat}
theorem thePath_eq (h : Frs E) {p : List Nat} (hp : IsPath E a b p) : thePath E a b = p := by
 unfold thePath
 have hc : Conn E a b := ⟨p, hp⟩
 rw [dif_pos hc]
 exact h.unique (Classical.choose_spec hc) hp
theorem connB_iff {n : Nat} {a b : Int} : connB n E a b = true ↔ ConnI n E a b := by unfold connB; exact decide_eq_true_iff
end
section
variable {w : World} {pf g n : Nat} {E : Nat → Nat → Prop} {key : Nat → Int} {ed : Int} (h : LG w pf g n E key ed)
include h
theorem connected_d (a b : Int) : Calls Tryz.prog 83 #[.pointer (some ⟨pf, 0, none⟩), .int .i64 a, .int .i64 b] w fun e w' => e = .returned (.bool (connB n E a b)) ∧ LG w' pf g n E key ed ∧ Fr [g] w w' := by
 refine (connected_w h a b).mono ?_
 rintro e w' ⟨r, rfl, hr, h2, h3⟩
 have : r = connB n E a b := by {
 have := (connB_iff (n := n) (E := E) (a := a) (b := b))
 cases r <;> cases hc : connB n E a b <;> simp_all
 }
 rw [this]; exact ⟨rfl, h2, h3⟩
theorem dist_d (a b : Int) : Calls Tryz.prog 179 #[.pointer (some ⟨pf, 0, none⟩), .int .i64 a, .int .i64 b] w fun e w' => e = .returned (.int .i64 (distI n E a b)) ∧ LG w' pf g n E key ed ∧ Fr [g] w w' := by
 have hf := h.frs
 refine (dist_w h a b).mono ?_
 rintro e w' ⟨x, rfl, hr, h2, h3⟩
 refine ⟨?_, h2, h3⟩
 unfold distI
 rcases hr with ⟨hn, rfl⟩ | ⟨v, u, p, rfl, rfl, hv, hu, hp, rfl⟩
 · rw [if_neg hn]
 {
 have hc : ConnI n E v u := ⟨by simp [inV]; omega, by simp [inV]; omega, p, hp⟩
 rw [if_pos hc, Int.toNat_natCast, Int.toNat_natCast, thePath_eq hf hp]
 }
end
theorem dist_nat {n : Nat} {E : Nat → Nat → Prop} (h : Frs E) {a b : Nat} (ha : a < n) (hb : b < n) {p : List Nat} (hp : IsPath E a b p) : distI n E a b = (p.length : Int) - 1 := by
 unfold distI
 rw [if_pos ⟨by simp [inV]; omega, by simp [inV]; omega, p, hp⟩, Int.toNat_natCast, Int.toNat_natCast, thePath_eq h hp]
theorem conn_in {E : Nat → Nat → Prop} {a b : Nat} (h : Conn E a b) (hne : a ≠ b) : ∃ x, E x b := by
 obtain ⟨p, l, rfl, hw, _, hl⟩ := h
 rcases List.eq_nil_or_concat l with rfl | ⟨S, x, rfl⟩
 · simp at hl; exact absurd hl hne
 {
 rw [List.concat_eq_append] at *
 rw [← List.cons_append, last_snoc] at hl
 cases hl
 rcases List.eq_nil_or_concat S with rfl | ⟨S', y, rfl⟩
 · exact ⟨a, hw.1⟩
 {
 rw [List.concat_eq_append, List.append_assoc] at hw
 exact ⟨y, (wk_append.1 hw).2.1⟩
 }
 }
theorem linkCode_new {n : Nat} {E : Nat → Nat → Prop} {a b : Nat} (ha : a < n) (hb : b < n) (hne : a ≠ b) (hc : ¬ Conn E a b) : linkCode n E a b = 0 := by
 unfold linkCode
 rw [if_pos ⟨by simp [inV]; omega, by simp [inV]; omega⟩, if_neg (by omega), Int.toNat_natCast, Int.toNat_natCast, if_neg hc]
theorem linkE_new {n : Nat} {E : Nat → Nat → Prop} {a b : Nat} (ha : a < n) (hb : b < n) (hne : a ≠ b) (hc : ¬ Conn E a b) : linkE n E a b = addE E a b := by
 unfold linkE; rw [linkCode_new ha hb hne hc]; simp
theorem link_ok {w : World} {pf g n : Nat} {E : Nat → Nat → Prop} {key : Nat → Int} (h : LM w pf g n E key) (a b : Nat) (ha : a < n) (hb : b < n) (hne : a ≠ b) (hc : ¬ Conn E a b) :
    Calls Tryz.prog 197 #[.pointer (some ⟨pf, 0, none⟩), .int .i64 a, .int .i64 b] w fun e w' => e = .returned (.int .i64 0) ∧ LM w' pf g n (addE E a b) key ∧ Fr [pf, g] w w' := by
 have := link_w h a b
 rw [linkCode_new ha hb hne hc, linkE_new ha hb hne hc] at this
 exact this
end Go.Proofs.YtgmnemndjjmgkaaGreat

namespace Go.Proofs.YtgmnemndjjmgkaaGreat
open Go.RowKit Classical
set_option maxRecDepth 10000
set_option maxHeartbeats 800000
noncomputable def cutCode (n : Nat) (E : Nat → Nat → Prop) (a b : Int) : Int :=
  if inV n a = true ∧ inV n b = true then (if E a.toNat b.toNat then 0 else 5) else 3
noncomputable def cutE (n : Nat) (E : Nat → Nat → Prop) (a b : Int) : Nat → Nat → Prop := if cutCode n E a b = 0 then delE E a.toNat b.toNat else E
theorem dist_one {n : Nat} {E : Nat → Nat → Prop} (h : Frs E) {v u : Nat} (hv : v < n) (hu : u < n) : distI n E v u = 1 ↔ E v u := by
 constructor
 {
 intro e
 by_cases hc : ConnI n E v u
 {
 obtain ⟨_, _, p, hp⟩ := hc
 simp only [Int.toNat_natCast] at hp
 rw [dist_nat h hv hu hp] at e
 obtain ⟨l, rfl, hw, _, hl⟩ := hp
 have hlen : l.length = 1 := by simp at e; omega
 match l, hlen with
 | [x], _ => {
 simp at hl; subst hl
 exact hw.1
 }
 }
 · unfold distI at e; rw [if_neg hc] at e; cases e
 }
 {
 intro e
 rw [dist_nat h hv hu (h.edge e)]; rfl
 }
theorem cut_w {w : World} {pf g n : Nat} {E : Nat → Nat → Prop} {key : Nat → Int} (h : LM w pf g n E key) (a b : Int) :
    Calls Tryz.prog 138 #[.pointer (some ⟨pf, 0, none⟩), .int .i64 a, .int .i64 b] w fun e w' => e = .returned (.int .i64 (cutCode n E a b)) ∧ LM w' pf g n (cutE n E a b) key ∧ Fr [pf, g] w w' := by
 have H := Lib.hid h
 have hfrs := Lib.hid (LG.frs h)
 obtain ⟨hp1, hg1, hn1⟩ := LG.lts h
 obtain ⟨cap, σ, F, par, d, rt, hL, hF, hE, hk⟩ := h
 clear hF hE hk
 have hLa : LctAt (w.alloc (.cells #[.int .i64 a, .int .i64 b] 3)) pf g (n + 1) cap σ ((n : Int) - nc n E) := hL.below ((Below.refl _ w).alloc (Nat.le_refl _) _) hp1 hg1
 have hblk := Blk.new w [.int .i64 a, .int .i64 b] 3
 have hFa : Fr [] w (w.alloc (.cells #[.int .i64 a, .int .i64 b] 3)) := (Fr.refl _ _).alloc _
 have HMa := Lib.hid (LG.fr H.out hFa (by simp) (by simp))
 have hCk := check_w hLa w.heap.size 2 (fun k => if k = 0 then a else b) (by decide) (fun k hk => by
   rw [hblk.cell]
   rcases (show k = 0 ∨ k = 1 by omega) with rfl | rfl <;> rfl)
 have HCk := Lib.hid hCk; clear hCk hblk
 clear hLa hL
 go_enter Tryz.func138, Tryz.ntmps138
 go_wp2_with fail
 refine HCk.out.mono ?_
 rintro _ w1 ⟨hcode, rfl⟩
 clear HCk
 generalize w.alloc (.cells #[.int .i64 a, .int .i64 b] 3) = w1 at *
 rcases hcode with ⟨rfl, hall⟩ | ⟨rfl, k, hk, hbad⟩
 {
 have va : inV n a = true := hall 0 (by decide)
 have vb : inV n b = true := hall 1 (by decide)
 clear hall
 obtain ⟨v, rfl, hv⟩ := inV_nat va
 obtain ⟨u, rfl, hu⟩ := inV_nat vb
 have hd1 := dist_one (n := n) hfrs.out hv hu
 go_wp2_with fail
 refine (dist_d HMa.out (v : Int) (u : Int)).mono ?_
 rintro _ w2 ⟨rfl, hM2, hF2⟩
 by_cases he : E v u
 {
 have hlc : cutCode n E v u = 0 := by unfold cutCode; rw [if_pos ⟨va, vb⟩, Int.toNat_natCast, Int.toNat_natCast, if_pos he]
 have hle : cutE n E v u = delE E v u := by unfold cutE; rw [hlc, if_pos rfl, Int.toNat_natCast, Int.toNat_natCast]
 have Hlc := Lib.hid (And.intro hlc hle); clear hlc hle
 have Hd := Lib.hid (hd1.2 he)
 rw [Hd.out]
 have He := Lib.hid he
 clear va vb hd1
 obtain ⟨cap2, σ2, F2, par2, d2, rt2, hL2, hLF2, hE2, hk2⟩ := hM2
 have hrt : rt2 (v + 1) = rt2 (u + 1) := (conn_rt hLF2.rtd hE2).1 (conn_of_edge hfrs.out he)
 have HF2 := Lib.hid hLF2; clear hLF2
 have HE2 := Lib.hid hE2; clear hE2
 have HK2 := Lib.hid hk2; clear hk2
 clear he
 have hN := hL2.le
 go_wp2_with fail
 refine (path_v hL2 HF2.out v u hv hu).mono ?_
 rintro _ w3 ⟨rfl, τ, l, R, par', d', rt', hL3, hP, hF3⟩
 obtain ⟨p, hp1', hp2', _⟩ := hP.at HE2.out hrt
 have hpe : p = [v, u] := hfrs.out.unique hp1' (hfrs.out.edge He.out)
 have hls : l.seq = [v + 1] := by {
 rw [hpe] at hp2'
 simp only [List.map_cons, List.map_nil] at hp2'
 have e : [v + 1] ++ [u + 1] = l.seq ++ [u + 1] := hp2'
 exact (List.append_cancel_right e).symm
 }
 have HCt := Lib.hid (hP.lf.cut hls)
 have HPk := Lib.hid (And.intro hP.key hP.adj)
 clear hP hp1' hp2' hpe hls hrt
 have d3 := hL3.hd.cell 1
 simp only [List.getElem?_cons_zero, List.getElem?_cons_succ] at d3
 have hfz3 := hL3.nodes.frozen
 have a2 := hL3.nodes.c2 (v + 1) (by omega)
 obtain ⟨hL4, hF4⟩ : LctAt (w3.setCell ⟨g, (v + 1) * 9 + 2, none⟩ (.int .i64 0)) pf g (n + 1) cap2 (τ.upd (v + 1) { τ (v + 1) with up := 0 }) ((n : Int) - nc n E) ∧ Fr [g] w3 (w3.setCell ⟨g, (v + 1) * 9 + 2, none⟩ (.int .i64 0)) := hL3.st2 (Fr.refl [g] w3) (i := v + 1) (by omega) 0
 have hv2 : ((v + 1 : Nat) : Int) < ((n + 1 : Nat) : Int) := by omega
 have hu2 : ((u + 1 : Nat) : Int) < ((n + 1 : Nat) : Int) := by omega
 have d4 := hL4.hd.cell 1
 simp only [List.getElem?_cons_zero, List.getElem?_cons_succ] at d4
 have hfz4 := hL4.nodes.frozen
 have b0 := hL4.nodes.c0 (u + 1) (by omega)
 obtain ⟨hL5, hF5⟩ := hL4.st0 hF4 (i := u + 1) (by omega) 0
 have HL5 : Hid (LctAt ((w3.setCell ⟨g, (v + 1) * 9 + 2, none⟩ (.int .i64 0)).setCell ⟨g, (u + 1) * 9, none⟩ (.int .i64 0)) pf g (n + 1) cap2 (cut2 τ (v + 1) (u + 1)) ((n : Int) - nc n E) ∧ Fr [g] w3 ((w3.setCell ⟨g, (v + 1) * 9 + 2, none⟩ (.int .i64 0)).setCell ⟨g, (u + 1) * 9, none⟩ (.int .i64 0))) := Lib.hid (And.intro hL5 hF5)
 clear hL5 hF5 hL4 hF4
 go_wp2_with fail
 refine (refresh_v HL5.out.1 u hu HCt.out.2.2.2.2 HCt.out.2.2.1 HCt.out.2.2.2.1).mono ?_
 rintro _ w6 ⟨rfl, hL6, hF6⟩
 have hF36 : Fr [g] w3 w6 := HL5.out.2.then hF6
 clear HL5 d3 hfz3 a2 d4 hfz4 b0
 have c6 := hL6.hd.cell 2
 simp only [List.getElem?_cons_zero, List.getElem?_cons_succ] at c6
 have hfz6 := hL6.hd.frozen 2
 obtain ⟨par3, d3', rt3, F3, q1, q2⟩ := HCt.out.1
 have hDE : ∀ x y, delE E v u x y ↔ Adj par3 (x + 1) (y + 1) := by {
 intro x y
 rw [q2, HPk.out.2]
 unfold delE
 rw [HE2.out x y]
 simp only [Nat.add_right_cancel_iff]
 }
 have hcnt := nc_del (n := n) hfrs.out ⟨par3, d3', rt3, q1.rtd, hDE⟩ He.out hv hu
 have hnc1 := nc_le n (delE E v u)
 obtain ⟨hL8, hF8⟩ := hL6.edges (hF2.then (hF3.then hF36)) ((n : Int) - nc n (delE E v u))
 have Hfin := Lib.hid (show LM _ pf g n (delE E v u) key from ⟨cap2, _, F3, par3, d3', rt3, hL8, q1, hDE, fun x hx => by rw [HCt.out.2.1, HPk.out.1]; exact HK2.out x hx⟩)
 have he2 : (n : Int) - nc n E - 1 = (n : Int) - nc n (delE E v u) := by omega
 have He2 := Lib.hid he2
 clear hL8 q1 q2 hDE hcnt he2 HCt
 have hncE := nc_le n E
 generalize nc n E = z1 at *
 generalize nc n (delE E v u) = z2 at *
 go_wp2
 go_ret
 rw [Hlc.out.1, Hlc.out.2, He2.out]
 exact ⟨rfl, Hfin.out, (hFa.mono (S' := [pf, g]) (by simp)).trans hF8 (fun q hq => .inl hq)⟩
 }
 {
 have hlc : cutCode n E v u = 5 := by unfold cutCode; rw [if_pos ⟨va, vb⟩, Int.toNat_natCast, Int.toNat_natCast, if_neg he]
 have hle : cutE n E v u = E := by unfold cutE; rw [hlc]; simp
 have Hlc := Lib.hid (And.intro hlc hle); clear hlc hle
 have hne : (distI n E v u != 1) = true := bne_iff_ne.2 (fun e => he (hd1.1 e))
 have HM2 := Lib.hid hM2
 clear va vb hd1 he hM2
 go_wp2
 go_ret
 rw [Hlc.out.1, Hlc.out.2]
 exact ⟨rfl, HM2.out, (hFa.mono (S' := [pf, g]) (by simp)).trans hF2 (fun q hq => .inl (by simp at hq; simp [hq]))⟩
 }
 }
 {
 have hlc : cutCode n E a b = 3 := by {
 unfold cutCode; rw [if_neg]
 rintro ⟨h1, h2⟩
 rcases (show k = 0 ∨ k = 1 by omega) with rfl | rfl
 · have hbad : inV n a = false := hbad; rw [h1] at hbad; cases hbad
 · have hbad : inV n b = false := hbad; rw [h2] at hbad; cases hbad
 }
 have hle : cutE n E a b = E := by unfold cutE; rw [hlc]; simp
 have Hlc := Lib.hid (And.intro hlc hle); clear hlc hle hbad
 go_wp2
 go_ret
 rw [Hlc.out.1, Hlc.out.2]
 exact ⟨rfl, HMa.out, hFa.mono (by simp)⟩
 }
end Go.Proofs.YtgmnemndjjmgkaaGreat
