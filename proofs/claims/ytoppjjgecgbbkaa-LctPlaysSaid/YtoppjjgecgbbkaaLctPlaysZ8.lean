/- LctCounts: the walk. -/
import Derived.Test.YtoppjjgecgbbkaaLctPlaysZ7
import Derived.Deep.Slices
import Derived.ChangeSame
import Derived.OpenShut
import Derived.Test.YtoppjjgecgbbkaaLctPlaysZ1
import Derived.ArgAppend
/- lct: Meet. -/
namespace Go.Proofs.Ytoppjjgecgbbkaa
open Go.RowKit
set_option maxRecDepth 10000
set_option maxHeartbeats 800000

/-- The one vertex that lies on all three paths. -/
def MeetsAt (E : Nat → Nat → Prop) (a b c m : Nat) : Prop := ∃ p q r, IsPath E a b p ∧ IsPath E b c q ∧ IsPath E c a r ∧ ∀ x, (x ∈ p ∧ x ∈ q ∧ x ∈ r) ↔ x = m

theorem meet_paths {E : Nat → Nat → Prop} (h : Frs E) {a b c m : Nat} {A Rq Bq : List Nat} (h1 : IsPath E a b (A ++ m :: Rq)) (h2 : IsPath E a c (A ++ m :: Bq)) (hd : ∀ x ∈ Bq, x ∉ A ++ m :: Rq) : MeetsAt E a b c m := by
  have hs : ∀ v u, E v u → E u v := fun _ _ e => h.symm e
  have r2 := h2.rev hs
  have e1 := h1.split.2.rev hs
  have e2 := h2.split.2
  rw [List.reverse_cons] at e1
  have n1 := List.nodup_append.1 h1.nd
  have n2 := List.nodup_append.1 h2.nd
  have n1c := List.nodup_cons.1 n1.2.1
  have n2c := List.nodup_cons.1 n2.2.1
  have hq : IsPath E b c (Rq.reverse ++ m :: Bq) := by
    refine e1.join e2 ?_
    rw [List.nodup_append]
    refine ⟨(List.reverse_perm _).nodup_iff.2 n1c.2, n2.2.1, fun x hx y hy => ?_⟩
    rw [List.mem_reverse] at hx
    rintro rfl
    rcases List.mem_cons.1 hy with rfl | hy
    · exact n1c.1 hx
    · exact hd x hy (by simp [hx])
  refine ⟨_, _, _, h1, hq, r2, fun x => ⟨?_, ?_⟩⟩
  · rintro ⟨p1, p2, p3⟩
    simp only [List.mem_append, List.mem_cons, List.mem_reverse] at p1 p2 p3
    rcases p2 with p2 | p2 | p2
    · rcases p3 with p3 | p3 | p3
      · exact absurd rfl (n1.2.2 x p3 x (by simp [p2]))
      · exact p3
      · exact absurd (by simp [p2]) (hd x p3)
    · exact p2
    · exact absurd (by simpa using p1) (hd x p2)
  · rintro rfl; simp

theorem meet_w {w : World} {pf g n : Nat} {E : Nat → Nat → Prop} {key : Nat → Int} {ed : Int} (h : LG w pf g n E key ed) (a b c : Int) :
    Calls Try.prog 20 #[.pointer (some ⟨pf, 0, none⟩), .int .i64 a, .int .i64 b, .int .i64 c] w fun e w' =>
      ((¬ (ConnI n E a b ∧ ConnI n E b c) ∧ e = .returned (.tuple #[.int .i64 0, .bool false])) ∨ ∃ v u x m : Nat, a = v ∧ b = u ∧ c = x ∧ v < n ∧ u < n ∧ x < n ∧ m < n ∧ MeetsAt E v u x m ∧ e = .returned (.tuple #[.int .i64 m, .bool true])) ∧ LG w' pf g n E key ed ∧ Fr [g] w w' := by
  go_enter Try.func20, Try.ntmps20
  go_wp2_with fail
  refine (connected_w h a b).mono ?_
  rintro _ w2 ⟨r, rfl, hr, h2, hF2⟩
  have HR := Lib.hid hr; clear hr
  cases r with
  | false =>
    have H2 := Lib.hid h2; clear h2 h
    go_wp2
    go_ret2
    exact ⟨.inl ⟨fun e => (by have := HR.out.2 e.1; cases this), rfl⟩, H2.out, hF2⟩
  | true =>
    have HC := Lib.hid (HR.out.1 rfl)
    clear HR
    go_wp2_with fail
    refine (connected_w h2 b c).mono ?_
    rintro _ w3 ⟨r, rfl, hr, h3, hF3⟩
    have HR2 := Lib.hid hr; clear hr
    cases r with
    | false =>
      have H3 := Lib.hid h3; clear h3 h2 h
      go_wp2
      go_ret2
      exact ⟨.inl ⟨fun e => (by have := HR2.out.2 e.2; cases this), rfl⟩, H3.out, hF2.then hF3⟩
    | true =>
      obtain ⟨va, vb, hc⟩ := HC.out
      obtain ⟨_, vc, hc2⟩ := HR2.out.1 rfl
      obtain ⟨v, rfl, hv⟩ := inV_nat va
      obtain ⟨u, rfl, hu⟩ := inV_nat vb
      obtain ⟨x, rfl, hx⟩ := inV_nat vc
      clear va vb vc HC HR2 h h2
      have hfrs := h3.frs
      obtain ⟨cap, σ, F, par, d, rt, hL, hF, hE, hk⟩ := h3
      have hrt := (conn_rt hF.rtd hE).1 hc
      have hrt2 := (conn_rt hF.rtd hE).1 hc2
      simp only [Int.toNat_natCast] at hrt hrt2
      have HF := Lib.hid hF; clear hF
      have HE := Lib.hid hE; clear hE
      have HK := Lib.hid hk; clear hk
      have HFs := Lib.hid hfrs; clear hfrs
      have hN := hL.le
      go_wp2_with fail
      refine (path_v hL HF.out v u hv hu).mono ?_
      rintro _ w4 ⟨rfl, τ, l, R, par', d', rt', hL4, hP, hF4⟩
      have HP := Lib.hid hP; clear hP
      go_wp2_with fail
      refine (expose_v hL4 HP.out.lf x hx).mono ?_
      rintro _ w5 ⟨m, τ5, l5, R5, rfl, hL5, hE5, hF5⟩
      have hm : ∃ m', m = m' + 1 ∧ m' < n ∧ MeetsAt E v u x m' := by
        have hP := HP.out
        obtain ⟨T0, A, Bq, Rq, q1, q2, q3, q4⟩ := hE5.meets
        obtain ⟨p, hp1, hp2, hp3⟩ := hP.at HE.out hrt
        obtain ⟨hn, hz, hcc⟩ := hE5.lf.top_seq
        -- the top path is that of u
        have rxu : rt' (x + 1) = rt' (u + 1) := (hP.rts _ _).2 hrt2.symm
        have hmT : m ∈ T0.nodes := seq_mem.1 (by rw [q2]; simp)
        have hmN := hP.lf.lt q1 hmT
        have hmx : rt' m = rt' (x + 1) := by
          have hmS : m ∈ l5.seq ++ [x + 1] := by rw [q3]; simp
          have hxS : x + 1 ∈ l5.seq ++ [x + 1] := by simp
          generalize l5.seq ++ [x + 1] = s at *
          cases s with
          | nil => cases hmS
          | cons y s => rw [ch_rt_head hE5.lf.rt0 hE5.lf.rt1 hcc hz m hmS, ch_rt_head hE5.lf.rt0 hE5.lf.rt1 hcc hz _ hxS]
        have hT0 : T0 = .node false l (u + 1) .nil := by
          rcases List.mem_cons.1 q1 with e | e
          · exact (Prod.mk.inj e).1
          · exfalso
            have c1 := hP.lf.ch _ (List.mem_cons_self)
            have c2 := hP.lf.ch _ q1
            have z1 := hP.lf.seq0 (List.mem_cons_self)
            have z2 := hP.lf.seq0 q1
            have su : u + 1 ∈ (BT.node false l (u + 1) .nil).seq := seq_mem.2 (by simp [BT.nodes])
            have sm := seq_mem.2 hmT
            have hdis := hP.lf.disj e
            dsimp only at c1 c2 z1 z2 hdis
            cases hs1 : (BT.node false l (u + 1) BT.nil).seq with
            | nil => rw [hs1] at su; cases su
            | cons y1 s1 =>
              cases hs2 : T0.seq with
              | nil => rw [hs2] at sm; cases sm
              | cons y2 s2 =>
                have my1 : y1 ∈ (BT.node false l (u + 1) BT.nil).nodes := seq_mem.1 (by rw [hs1]; simp)
                have my2 : y2 ∈ T0.nodes := seq_mem.1 (by rw [hs2]; simp)
                rw [hs1] at c1 z1 su; rw [hs2] at c2 z2 sm
                have ra := ch_rt_head hP.lf.rt0 hP.lf.rt1 c1 z1 _ su
                have rb := ch_rt_head hP.lf.rt0 hP.lf.rt1 c2 z2 _ sm
                have hyy : y1 = y2 := by rw [← ra, ← rb, hmx, rxu]
                exact hdis y1 my1 (hyy ▸ my2)
        subst hT0
        have hs : (BT.node false l (u + 1) BT.nil).seq = p.map (· + 1) := by rw [hp2]; simp [BT.seq]
        rw [hs] at q2
        -- both paths over the vertices
        have h1 : IsPath (Adj par) (v + 1) (u + 1) (A ++ m :: Rq) := by rw [← q2]; exact (path_shift HE.out).1 hp1
        have h2 : IsPath (Adj par) (v + 1) (x + 1) (A ++ m :: Bq) := by
          rw [← q3]
          have hl : (l5.seq ++ [x + 1]).getLast? = some (x + 1) := last_snoc _ _
          have hxS : x + 1 ∈ l5.seq ++ [x + 1] := by simp
          have rv : rt' (x + 1) = v + 1 := by rw [rxu, ← (hP.rts _ _).2 hrt, hP.rti]
          generalize l5.seq ++ [x + 1] = s at *
          cases s with
          | nil => cases hxS
          | cons y s =>
            have hy : y = v + 1 := by rw [← ch_rt_head hE5.lf.rt0 hE5.lf.rt1 hcc hz _ hxS, rv]
            subst hy
            have : IsPath (Adj par') (v + 1) (x + 1) ((v + 1) :: s) := ⟨s, rfl, ch_wk (by omega) (fun z hz' => hz z (by simp [hz'])) hcc.2, hn, hl⟩
            exact this.mono (fun a b => (hP.adj a b).1)
        obtain ⟨m', rfl⟩ : ∃ m', m = m' + 1 := ⟨m - 1, by omega⟩
        have g1 := (path_unshift HE.out h1).1
        have g2 := (path_unshift HE.out h2).1
        rw [List.map_append, List.map_cons] at g1 g2
        have z3 : ∀ z ∈ Bq, z ≠ 0 := fun z hz' => hz z (by rw [q3]; simp [hz'])
        refine ⟨m', rfl, by omega, meet_paths HFs.out g1 g2 (fun y hy hy2 => ?_)⟩
        obtain ⟨z, hz1, rfl⟩ := List.mem_map.1 hy
        have hzn : z ∈ A ++ (m' + 1) :: Rq := by
          have e2 : (A ++ (m' + 1) :: Rq).map (· - 1) = A.map (· - 1) ++ m' :: Rq.map (· - 1) := by simp
          rw [← e2] at hy2
          obtain ⟨z', hz2, e⟩ := List.mem_map.1 hy2
          have h0' : z' ≠ 0 := by rw [← q2] at hz2; obtain ⟨k, _, rfl⟩ := List.mem_map.1 hz2; omega
          have := z3 z hz1
          have : z' = z := by omega
          rw [← this]; exact hz2
        refine q4 z hz1 (seq_mem.1 ?_)
        rw [hs, q2]; exact hzn
      obtain ⟨m', rfl, hmn, hm⟩ := hm
      have HM := Lib.hid hm; clear hm
      have HE5 := Lib.hid hE5; clear hE5
      have hw1 : ((m' + 1 : Nat) : Int) - 1 = m' := by omega
      go_wp2
      go_ret2
      refine ⟨.inr ⟨v, u, x, m', rfl, rfl, rfl, hv, hu, hx, hmn, HM.out, rfl⟩, ⟨cap, τ5, _, par', d', rt', hL5, HE5.out.lf, fun a b => (HE.out a b).trans (HP.out.adj _ _).symm, fun y hy => by rw [HE5.out.key, HP.out.key]; exact HK.out y hy⟩, hF2.then (hF3.then (hF4.then hF5))⟩

end Go.Proofs.Ytoppjjgecgbbkaa

/- lct: the answers as functions of the forest. -/
namespace Go.Proofs.Ytoppjjgecgbbkaa
open Go.RowKit Classical
set_option maxRecDepth 10000
set_option maxHeartbeats 800000

noncomputable def connB (n : Nat) (E : Nat → Nat → Prop) (a b : Int) : Bool := decide (ConnI n E a b)
noncomputable def thePath (E : Nat → Nat → Prop) (a b : Nat) : List Nat := if h : Conn E a b then Classical.choose h else []
noncomputable def theMeet (E : Nat → Nat → Prop) (a b c : Nat) : Nat := if h : ∃ m, MeetsAt E a b c m then Classical.choose h else 0
noncomputable def distI (n : Nat) (E : Nat → Nat → Prop) (a b : Int) : Int := if ConnI n E a b then ((thePath E a.toNat b.toNat).length : Int) - 1 else -1
noncomputable def meetB (n : Nat) (E : Nat → Nat → Prop) (a b c : Int) : Bool := connB n E a b && connB n E b c
noncomputable def meetI (n : Nat) (E : Nat → Nat → Prop) (a b c : Int) : Nat := if meetB n E a b c then theMeet E a.toNat b.toNat c.toNat else 0

section
variable {E : Nat → Nat → Prop} {a b c : Nat}
theorem thePath_eq (h : Frs E) {p : List Nat} (hp : IsPath E a b p) : thePath E a b = p := by
  unfold thePath
  have hc : Conn E a b := ⟨p, hp⟩
  rw [dif_pos hc]
  exact h.unique (Classical.choose_spec hc) hp
theorem thePath_is (hc : Conn E a b) : IsPath E a b (thePath E a b) := by
  unfold thePath; rw [dif_pos hc]; exact Classical.choose_spec hc
theorem meetsAt_unique (h : Frs E) {m m' : Nat} (h1 : MeetsAt E a b c m) (h2 : MeetsAt E a b c m') : m = m' := by
  obtain ⟨p, q, r, a1, a2, a3, a4⟩ := h1
  obtain ⟨p', q', r', b1, b2, b3, b4⟩ := h2
  rw [← h.unique a1 b1, ← h.unique a2 b2, ← h.unique a3 b3] at b4
  exact (b4 m).1 ((a4 m).2 rfl)
theorem theMeet_eq (h : Frs E) {m : Nat} (h1 : MeetsAt E a b c m) : theMeet E a b c = m := by
  unfold theMeet
  have hc : ∃ m, MeetsAt E a b c m := ⟨m, h1⟩
  rw [dif_pos hc]
  exact meetsAt_unique h (Classical.choose_spec hc) h1
theorem connB_iff {n : Nat} {a b : Int} : connB n E a b = true ↔ ConnI n E a b := by unfold connB; exact decide_eq_true_iff
theorem connB_nat {n : Nat} (ha : a < n) (hb : b < n) : connB n E a b = true ↔ Conn E a b := by
  rw [connB_iff]
  refine ⟨fun h => h.2.2, fun h => ⟨?_, ?_, h⟩⟩ <;> · simp [inV]; omega
end

section
variable {w : World} {pf g n : Nat} {E : Nat → Nat → Prop} {key : Nat → Int} {ed : Int} (h : LG w pf g n E key ed)
include h
theorem connected_d (a b : Int) : Calls Try.prog 15 #[.pointer (some ⟨pf, 0, none⟩), .int .i64 a, .int .i64 b] w fun e w' => e = .returned (.bool (connB n E a b)) ∧ LG w' pf g n E key ed ∧ Fr [g] w w' := by
  refine (connected_w h a b).mono ?_
  rintro e w' ⟨r, rfl, hr, h2, h3⟩
  have : r = connB n E a b := by
    have := (connB_iff (n := n) (E := E) (a := a) (b := b))
    cases r <;> cases hc : connB n E a b <;> simp_all
  rw [this]; exact ⟨rfl, h2, h3⟩
theorem dist_d (a b : Int) : Calls Try.prog 21 #[.pointer (some ⟨pf, 0, none⟩), .int .i64 a, .int .i64 b] w fun e w' => e = .returned (.int .i64 (distI n E a b)) ∧ LG w' pf g n E key ed ∧ Fr [g] w w' := by
  have hf := h.frs
  refine (dist_w h a b).mono ?_
  rintro e w' ⟨x, rfl, hr, h2, h3⟩
  refine ⟨?_, h2, h3⟩
  unfold distI
  rcases hr with ⟨hn, rfl⟩ | ⟨v, u, p, rfl, rfl, hv, hu, hp, rfl⟩
  · rw [if_neg hn]
  · have hc : ConnI n E v u := ⟨by simp [inV]; omega, by simp [inV]; omega, p, hp⟩
    rw [if_pos hc, Int.toNat_natCast, Int.toNat_natCast, thePath_eq hf hp]
theorem meet_d (a b c : Int) : Calls Try.prog 20 #[.pointer (some ⟨pf, 0, none⟩), .int .i64 a, .int .i64 b, .int .i64 c] w fun e w' => e = .returned (.tuple #[.int .i64 (meetI n E a b c), .bool (meetB n E a b c)]) ∧ LG w' pf g n E key ed ∧ Fr [g] w w' := by
  have hf := h.frs
  refine (meet_w h a b c).mono ?_
  rintro e w' ⟨hr, h2, h3⟩
  refine ⟨?_, h2, h3⟩
  rcases hr with ⟨hn, rfl⟩ | ⟨v, u, x, m, rfl, rfl, rfl, hv, hu, hx, _, hm, rfl⟩
  · have : meetB n E a b c = false := by
      unfold meetB
      cases h1 : connB n E a b
      · rfl
      · cases h2 : connB n E b c
        · rfl
        · exact absurd ⟨connB_iff.1 h1, connB_iff.1 h2⟩ hn
    unfold meetI
    rw [this]; rfl
  · have hc : meetB n E v u x = true := by
      obtain ⟨p, q, r, q1, q2, q3, _⟩ := hm
      unfold meetB
      rw [Bool.and_eq_true, connB_nat hv hu, connB_nat hu hx]
      exact ⟨⟨p, q1⟩, ⟨q, q2⟩⟩
    unfold meetI
    rw [hc, if_pos rfl, Int.toNat_natCast, Int.toNat_natCast, Int.toNat_natCast, theMeet_eq hf hm]
end

theorem dist_nat {n : Nat} {E : Nat → Nat → Prop} (h : Frs E) {a b : Nat} (ha : a < n) (hb : b < n) {p : List Nat} (hp : IsPath E a b p) : distI n E a b = (p.length : Int) - 1 := by
  unfold distI
  rw [if_pos ⟨by simp [inV]; omega, by simp [inV]; omega, p, hp⟩, Int.toNat_natCast, Int.toNat_natCast, thePath_eq h hp]

/-- Whoever is connected with another vertex has an edge. -/
theorem conn_in {E : Nat → Nat → Prop} {a b : Nat} (h : Conn E a b) (hne : a ≠ b) : ∃ x, E x b := by
  obtain ⟨p, l, rfl, hw, _, hl⟩ := h
  rcases List.eq_nil_or_concat l with rfl | ⟨S, x, rfl⟩
  · simp at hl; exact absurd hl hne
  · rw [List.concat_eq_append] at *
    rw [← List.cons_append, last_snoc] at hl
    cases hl
    rcases List.eq_nil_or_concat S with rfl | ⟨S', y, rfl⟩
    · exact ⟨a, hw.1⟩
    · rw [List.concat_eq_append, List.append_assoc] at hw
      exact ⟨y, (wk_append.1 hw).2.1⟩

def E0 : Nat → Nat → Prop := fun _ _ => False
def E1 := addE E0 0 1
def E2 := addE E1 1 2
def E3 := addE E2 1 3
theorem e3_iff (v u : Nat) : E3 v u ↔ (v = 0 ∧ u = 1) ∨ (v = 1 ∧ u = 0) ∨ (v = 1 ∧ u = 2) ∨ (v = 2 ∧ u = 1) ∨ (v = 1 ∧ u = 3) ∨ (v = 3 ∧ u = 1) := by
  simp only [E3, E2, E1, E0, addE, false_or]; omega
theorem inV6 (v : Nat) (h : v < 6) : inV 6 (v : Int) = true := by simp [inV]; omega
theorem linkCode_new {n : Nat} {E : Nat → Nat → Prop} {a b : Nat} (ha : a < n) (hb : b < n) (hne : a ≠ b) (hc : ¬ Conn E a b) : linkCode n E a b = 0 := by
  unfold linkCode
  rw [if_pos ⟨by simp [inV]; omega, by simp [inV]; omega⟩, if_neg (by omega), Int.toNat_natCast, Int.toNat_natCast, if_neg hc]
theorem linkE_new {n : Nat} {E : Nat → Nat → Prop} {a b : Nat} (ha : a < n) (hb : b < n) (hne : a ≠ b) (hc : ¬ Conn E a b) : linkE n E a b = addE E a b := by
  unfold linkE; rw [linkCode_new ha hb hne hc]; simp

theorem link_ok {w : World} {pf g n : Nat} {E : Nat → Nat → Prop} {key : Nat → Int} (h : LM w pf g n E key) (a b : Nat) (ha : a < n) (hb : b < n) (hne : a ≠ b) (hc : ¬ Conn E a b) :
    Calls Try.prog 16 #[.pointer (some ⟨pf, 0, none⟩), .int .i64 a, .int .i64 b] w fun e w' => e = .returned (.int .i64 0) ∧ LM w' pf g n (addE E a b) key ∧ Fr [pf, g] w w' := by
  have := link_w h a b
  rw [linkCode_new ha hb hne hc, linkE_new ha hb hne hc] at this
  exact this

theorem path_e3 (a b : Nat) (ha : a = 0 ∨ a = 2 ∨ a = 3) (hb : b = 0 ∨ b = 2 ∨ b = 3) (hne : a ≠ b) : IsPath E3 a b [a, 1, b] := by
  refine ⟨[1, b], rfl, ⟨(e3_iff _ _).2 (by omega), (e3_iff _ _).2 (by omega), trivial⟩, ?_, rfl⟩
  have h1 : a ≠ 1 := by omega
  have h2 : (1 : Nat) ≠ b := by omega
  simp [h1, h2, hne]
theorem e3_conn (v : Nat) (hv : v < 4) : Conn E3 3 v := by
  by_cases h3 : v = 3
  · rw [h3]; exact Conn.refl _ _
  · by_cases h1 : v = 1
    · subst h1
      exact ⟨[3, 1], [1], rfl, ⟨(e3_iff _ _).2 (by omega), trivial⟩, by simp, rfl⟩
    · exact ⟨_, path_e3 3 v (by omega) (by omega) (by omega)⟩
theorem meets_e3 : MeetsAt E3 0 2 3 1 := ⟨_, _, _, path_e3 0 2 (by omega) (by omega) (by omega), path_e3 2 3 (by omega) (by omega) (by omega), path_e3 3 0 (by omega) (by omega) (by omega), fun x => by simp; omega⟩

/-- The example of the chapter, which every statement about layer 12 runs. -/
theorem works_w (w : World) : Calls Try.prog 13 #[] w fun e w' => e = .returned (.bool true) ∧ Below w.heap.size w w' := by
  go_enter Try.func13, Try.ntmps13
  go_wp2_with fail
  refine (new_w 6 w (by decide)).mono ?_
  rintro e w1 ⟨pf, g, rfl, h1, f1, hp, hg⟩
  go_wp2_with fail
  refine (link_ok h1 0 1 (by decide) (by decide) (by decide) (fun hc => by obtain ⟨x, hx⟩ := conn_in hc (by decide); exact hx)).mono ?_
  rintro e w2 ⟨rfl, h2, f2⟩
  change LM w2 pf g 6 E1 _ at h2
  go_wp2_with fail
  refine (link_ok h2 1 2 (by decide) (by decide) (by decide) (fun hc => by obtain ⟨x, hx⟩ := conn_in hc (by decide); simp [E1, E0, addE] at hx)).mono ?_
  rintro e w3 ⟨rfl, h3, f3⟩
  change LM w3 pf g 6 E2 _ at h3
  go_wp2_with fail
  refine (link_ok h3 1 3 (by decide) (by decide) (by decide) (fun hc => by obtain ⟨x, hx⟩ := conn_in hc (by decide); simp [E2, E1, E0, addE] at hx)).mono ?_
  rintro e w4 ⟨rfl, h4, f4⟩
  change LM w4 pf g 6 E3 _ at h4
  have q1 := LG.frs h1
  have q2 := LG.frs h2
  have q3 := LG.frs h3
  have q4 := LG.frs h4
  have hnc : nc 6 E3 = 3 := by
    have a1 := nc_add (n := 6) (a := 0) (b := 1) q1 q2 (fun hc => by obtain ⟨x, hx⟩ := conn_in hc (by decide); exact hx) (by decide) (by decide)
    have a2 := nc_add (n := 6) (a := 1) (b := 2) q2 q3 (fun hc => by obtain ⟨x, hx⟩ := conn_in hc (by decide); simp [E1, E0, addE] at hx) (by decide) (by decide)
    have a3 := nc_add (n := 6) (a := 1) (b := 3) q3 q4 (fun hc => by obtain ⟨x, hx⟩ := conn_in hc (by decide); simp [E2, E1, E0, addE] at hx) (by decide) (by decide)
    have a0 := nc_none 6
    have a1 : nc 6 E1 + 1 = nc 6 (fun _ _ => False) := a1
    have a2 : nc 6 E2 + 1 = nc 6 E1 := a2
    have a3 : nc 6 E3 + 1 = nc 6 E2 := a3
    omega
  have hlc : linkCode 6 E3 (2 : Nat) (0 : Nat) = 6 := by
    unfold linkCode
    rw [if_pos ⟨rfl, rfl⟩, if_neg (by decide), if_pos ⟨_, path_e3 2 0 (by omega) (by omega) (by omega)⟩]
  have hle : linkE 6 E3 (2 : Nat) (0 : Nat) = E3 := by unfold linkE; rw [hlc]; simp
  have L4 := link_w h4 (2 : Nat) (0 : Nat)
  rw [hlc, hle] at L4
  have HL4 := Lib.hid L4; clear L4 hlc hle
  have hmb : meetB 6 E3 (0 : Nat) (2 : Nat) (3 : Nat) = true := by
    unfold meetB
    rw [Bool.and_eq_true, connB_nat (by decide) (by decide), connB_nat (by decide) (by decide)]
    exact ⟨⟨_, path_e3 0 2 (by omega) (by omega) (by omega)⟩, ⟨_, path_e3 2 3 (by omega) (by omega) (by omega)⟩⟩
  have hmi : meetI 6 E3 (0 : Nat) (2 : Nat) (3 : Nat) = 1 := by
    unfold meetI; rw [hmb, if_pos rfl]; exact theMeet_eq q4 meets_e3
  have hdi : distI 6 E3 (2 : Nat) (3 : Nat) = 2 := by
    unfold distI
    have hp := path_e3 2 3 (by omega) (by omega) (by omega)
    rw [if_pos ⟨rfl, rfl, _, hp⟩]
    show ((thePath E3 2 3).length : Int) - 1 = 2
    rw [thePath_eq q4 hp]; rfl
  have hcs : csize 6 E3 3 = 4 := by
    unfold csize
    have : (List.range 6).filter (fun u => decide (Conn E3 3 u)) = (List.range 6).filter (fun u => decide (u < 4)) := by
      refine List.filter_congr (fun u hu => decide_eq_decide.2 ⟨fun hc => ?_, fun h => e3_conn u h⟩)
      by_cases e : 3 = u
      · omega
      · obtain ⟨x, hx⟩ := conn_in hc e
        have := (e3_iff x u).1 hx; omega
    rw [this]; rfl
  have HQ := Lib.hid (And.intro (And.intro hmb hmi) (And.intro hdi (And.intro hcs hnc))); clear hmb hmi hdi hcs hnc q1 q2 q3 q4
  go_wp2_with fail
  refine HL4.out.mono ?_
  rintro e w5 ⟨rfl, h5, f5⟩
  go_wp2_with fail
  refine (meet_d h5 (0 : Nat) (2 : Nat) (3 : Nat)).mono ?_
  rintro e w6 ⟨rfl, h6, f6⟩
  rw [HQ.out.1.1, HQ.out.1.2]
  go_wp2_with fail
  refine (dist_d h6 (2 : Nat) (3 : Nat)).mono ?_
  rintro e w7 ⟨rfl, h7, f7⟩
  rw [HQ.out.2.1]
  go_wp2_with fail
  refine (size_w h7 (3 : Nat)).mono ?_
  rintro e w8 ⟨rfl, h8, f8⟩
  rw [if_pos (show inV 6 ((3 : Nat) : Int) = true from rfl), show ((3 : Nat) : Int).toNat = 3 from rfl, HQ.out.2.2.1]
  go_wp2_with fail
  refine (trees_w h8).mono ?_
  rintro e w9 ⟨rfl, k, rfl⟩
  rw [HQ.out.2.2.2]
  go_wp2
  go_ret
  have fx : Fr [pf, g] w1 w8 := ((((((f2.trans' f3).trans' f4).trans' f5).trans f6 (fun b hb => .inl (by simp at hb; simp [hb]))).trans f7 (fun b hb => .inl (by simp at hb; simp [hb]))).trans f8 (fun b hb => .inl (by simp at hb; simp [hb])))
  have fy : Fr [] w w8 := f1.trans fx (fun b hb => .inr (by simp at hb; omega))
  exact ⟨rfl, (fy.drewN k).below (by simp)⟩

end Go.Proofs.Ytoppjjgecgbbkaa

/- How a slice of pairs of integers reads. -/
namespace Go.Proofs.Ytoppjjgecgbbkaa
open Go.ChangeShapes Go.WideShapes Go.ChangeAt Go.RowKit Go.Deep

/-- A slice of len pairs reads z. -/
def PairsF (w : World) (a : Option Addr) (len : Nat) (z : Nat → Int × Int) : Prop :=
  len ≤ 9223372036854775807 ∧ ∀ i, i < len → ∃ b off, a = some ⟨b, off, none⟩ ∧ b < w.heap.size ∧ w.cell? ⟨b, off + i * 2, none⟩ = some (.int .i64 (z i).1) ∧ w.cell? ⟨b, off + i * 2 + 1, none⟩ = some (.int .i64 (z i).2)

theorem PairsF.below {w w' : World} {a : Option Addr} {len : Nat} {z : Nat → Int × Int} (h : PairsF w a len z) (hb : Below w.heap.size w w') : PairsF w' a len z := by
  refine ⟨h.1, fun i hi => ?_⟩
  obtain ⟨b, off, rfl, hlt, h1, h2⟩ := h.2 i hi
  exact ⟨b, off, rfl, Nat.lt_of_lt_of_le hlt hb.size, (hb.cell (p := ⟨b, off + i * 2, none⟩) hlt).trans h1, (hb.cell (p := ⟨b, off + i * 2 + 1, none⟩) hlt).trans h2⟩

theorem cell_no_spot {W : World} {y : Addr} {v : Value} (h : W.cell? y = some v) : y.spot = none := by
  unfold World.cell? at h
  split at h
  · by_cases hs : y.spot.isSome = true
    · rw [if_pos hs] at h; cases h
    · cases hy : y.spot with
      | none => rfl
      | some s => rw [hy] at hs; exact absurd rfl hs
  · cases h

theorem open_pairs {H : Type} {enc : TypeId × Value → H} {W : World} {a : Option Addr} {len cap : Nat} {d : DataW H} {p : List MemPlace}
    (h : DataW.Trod enc Try.prog W 0 (fun _ => true) true 22 (.slice a len cap) d p) : ∃ z, PairsF W a len z := by
  obtain ⟨fuel, hf⟩ := h
  have c3 : Try.prog.cellsOf 3 = 1 := by kernel_rfl
  have c30 : Try.prog.cellsOf 30 = 2 := by kernel_rfl
  rcases open_slice Try.underlying22 hf with ⟨hcs, _⟩ | ⟨x, l, c, m, n, D, Pl, hcs, _, hl, hm, hmm, _, hel⟩
  · simp [Value.cells] at hcs
    obtain ⟨rfl, rfl, rfl⟩ := hcs
    exact ⟨fun _ => (0, 0), by omega, fun i hi => absurd hi (Nat.not_lt_zero _)⟩
  · simp [Value.cells] at hcs
    obtain ⟨rfl, rfl, rfl⟩ := hcs
    have hml : len ≤ m := by rw [hmm]; simpa using hl
    have key : ∀ i, i < len → ∃ u : Int × Int, W.cell? (x.add (i * 2)) = some (.int .i64 u.1) ∧ W.cell? ((x.add (i * 2)).add 1) = some (.int .i64 u.2) := by
      intro i hi
      obtain ⟨cs', hc, ht⟩ := hel i (by omega)
      rw [c30] at hc
      obtain ⟨xs, n', _, _, hlen, hxl, hall⟩ := DataW.trod_array Try.underlying30 ht
      obtain ⟨_, _, hat⟩ := World.cells?_some hc
      rw [c3] at hall
      have h0 := hall 0 (by decide)
      have h1 := hall 1 (by decide)
      rw [List.getElem?_eq_getElem (by omega)] at h0 h1
      obtain ⟨n0, e0, _, _⟩ := DataW.trod_int Try.underlying3 h0
      obtain ⟨n1, e1, _, _⟩ := DataW.trod_int Try.underlying3 h1
      have g0 := hat 0 (by decide)
      have g1 := hat 1 (by decide)
      have q0 : cs'[0]? = some (.int .i64 n0) := by
        have := congrArg (fun l => l[0]?) e0; simpa using this
      have q1 : cs'[1]? = some (.int .i64 n1) := by
        have := congrArg (fun l => l[0]?) e1; simpa using this
      have z0 : ∀ y : Addr, y.add 0 = y := fun y => by simp [Addr.add]
      rw [z0] at g0
      exact ⟨(n0, n1), g0.trans q0, g1.trans q1⟩
    have key2 : ∀ i, ∃ u : Int × Int, i < len → W.cell? (x.add (i * 2)) = some (.int .i64 u.1) ∧ W.cell? ((x.add (i * 2)).add 1) = some (.int .i64 u.2) := by
      intro i
      by_cases hi : i < len
      · obtain ⟨u, h⟩ := key i hi
        exact ⟨u, fun _ => h⟩
      · exact ⟨(0, 0), fun h => absurd h hi⟩
    obtain ⟨F, hF⟩ := Classical.axiomOfChoice key2
    refine ⟨F, by unfold maxLen at hm; omega, fun i hi => ?_⟩
    obtain ⟨h1, h2⟩ := hF i hi
    have hsp := cell_no_spot (hF 0 (by omega)).1
    have z0 : ∀ y : Addr, y.add (0 * 2) = y := fun y => by simp [Addr.add]
    rw [z0] at hsp
    obtain ⟨b, off, sp⟩ := x
    simp only at hsp
    subst hsp
    rw [Addr.add_lit] at h1
    rw [Addr.add_lit, Addr.add_lit] at h2
    exact ⟨b, off, rfl, cell_lt h1, h1, h2⟩

end Go.Proofs.Ytoppjjgecgbbkaa

/- How an array of three integers reads. -/
namespace Go.Proofs.Ytoppjjgecgbbkaa
open Go.ChangeShapes Go.WideShapes Go.ChangeAt Go.RowKit Go.Deep

theorem open_three {H : Type} {enc : TypeId × Value → H} {W : World} {base : Nat} {v : Value} {d : DataW H} {p : List MemPlace} (hv : Value.okWide Try.prog W .any base 34 v)
    (h : DataW.Trod enc Try.prog W 0 (fun _ => true) true 34 v d p) : ∃ z : Int × Int × Int, v = .agg #[.int .i64 z.1, .int .i64 z.2.1, .int .i64 z.2.2] ∧ True := by
  have c3 : Try.prog.cellsOf 3 = 1 := by kernel_rfl
  have c30 : Try.prog.cellsOf 34 = 3 := by kernel_rfl
  obtain ⟨fuel, hf⟩ := h
  unfold Value.okWide at hv
  simp only [Try.underlying34] at hv
  obtain ⟨cs, rfl, hsz, _⟩ := hv
  obtain ⟨xs, n', _, _, hlen, hxl, hall⟩ := DataW.trod_array Try.underlying34 hf
  rw [c3] at hall
  simp only [Value.cells] at hall hlen
  have h0 := hall 0 (by decide)
  have h1 := hall 1 (by decide)
  have h2 := hall 2 (by decide)
  rw [List.getElem?_eq_getElem (by omega)] at h0 h1 h2
  obtain ⟨n0, e0, _, _⟩ := DataW.trod_int Try.underlying3 h0
  obtain ⟨n1, e1, _, _⟩ := DataW.trod_int Try.underlying3 h1
  obtain ⟨n2, e2, _, _⟩ := DataW.trod_int Try.underlying3 h2
  rw [c30] at hlen
  refine ⟨(n0, n1, n2), ?_, trivial⟩
  obtain ⟨l⟩ := cs
  match l, hlen with
  | [x0, x1, x2], _ =>
    simp at e0 e1 e2
    subst e0; subst e1; subst e2
    rfl

end Go.Proofs.Ytoppjjgecgbbkaa

/- 'append(nil, s...)': a copy of a row of one's own. -/
namespace Go.Proofs.Ytoppjjgecgbbkaa
open Go.RowKit

theorem ownsRow_base0 {w : World} {base : Nat} {e : TypeId} {size : Nat} {v : Value} {n : Nat} {xs : List Value} (h : w.ownsRow base e size v n xs) : w.ownsRow 0 e size v n xs :=
  ⟨h.1, h.2.elim .inl (fun ⟨g, cap, cur, k1, _, k3⟩ => .inr ⟨g, cap, cur, k1, Nat.zero_le _, k3⟩)⟩
theorem run_app_nil {P : Program} (w : World) (t ty e : TypeId) (i : TypeInfo) (z : Value) (size bytes : Nat) (ht : P.underlying t = some (.slice e)) (hi : P.info? e = some i) (hz : i.zero = some z)
    (hsize : i.size = size) (hby : i.bytes = bytes) (hzs : z.cells.size = size) (hsz : 0 < size)
    (x : Value) (m : Nat) (news : List Value) (hx : w.ownsRow 0 e size x m news) (h1 : ∀ u ∈ news, u.oneCell' = true) (h63 : m ≤ maxLen) (hbytes : m * bytes ≤ 140737488355328) :
    ∃ v' w', (Builtin.append_ #[t, t] ty #[.slice none 0 0, x]).run P w = .ok v' w' ∧ w'.ownsRow 0 e size v' m news ∧ Fr [] w w' ∧ ∀ q, v'.ownBlock = some q → w.heap.size ≤ q := by
  have hn : w.ownsRow w.heap.size e size (.slice none 0 0) 0 [] := World.ownsRow_nil _ _ _ _
  have hxs := hx.1
  rcases hx.2 with ⟨rfl, rfl⟩ | ⟨g, cap, cur, rfl, _, hg, hnc, hcm, hcs, htake⟩
  · refine ⟨_, _, run_append_owned_none w w.heap.size t ty e i size ht hi _ 0 [] hn, hx, Fr.refl _ _, fun q e => by cases e⟩
  · obtain ⟨v', w', hr, h2, h3, _⟩ := run_append_own (P := P) w w.heap.size t ty e i z size bytes ht hi hz hsize hby hzs hsz (.slice none 0 0) 0 [] hn ⟨g, 0, none⟩ m cap news hxs (hx.cells (g := g) rfl) h1 (by simpa using h63) (by simpa using hbytes) (Nat.le_refl _)
    simp only [Nat.zero_add, List.nil_append] at h2
    refine ⟨v', w', hr, ownsRow_base0 h2, ⟨h3.os, h3.tape, h3.output, h3.size, fun k hk _ => h3.block k hk (by simp [Value.ownBlock])⟩, fun q hq => ?_⟩
    rcases h2.2 with ⟨rfl, _⟩ | ⟨g', cap', cur', rfl, hgb, _⟩
    · cases hq
    · simp [Value.ownBlock] at hq; omega
theorem wp_app_nil {P : Program} {w : World} {o : Oper} {a : Act} {K : Act → World → Prop} {Q : Exit → Act → World → Prop} (s x : Operand) (t : TypeId)
    (ho : o.op = .call { callee := .builtin .append, args := #[s, x], argTypes := #[t, t] })
    (e : TypeId) (z : Value) (size bytes : Nat) (ht : P.underlying t = some (.slice e)) (hinfo : (P.info? e).map (fun i => (i.zero, i.size, i.bytes)) = some (some z, size, bytes)) (hzs : z.cells.size = size) (hsz : 0 < size)
    (hs : a.eval s = .slice none 0 0) (v : Value) (m : Nat) (news : List Value) (hv : a.eval x = v) (hx : w.ownsRow 0 e size v m news) (h1 : ∀ u ∈ news, u.oneCell' = true) (h63 : m ≤ maxLen) (hbytes : m * bytes ≤ 140737488355328)
    (h : ∀ v' w', w'.ownsRow 0 e size v' m news → Fr [] w w' → (∀ q, v'.ownBlock = some q → w.heap.size ≤ q) → K (a.put o.dst v') w') : o.wp P a w K Q := by
  obtain ⟨i0, hi, hz0, hz1, hz2⟩ := info_parts hinfo
  obtain ⟨v', w', hr, h2, h3, h4⟩ := run_app_nil (P := P) w t o.type e i0 z size bytes ht hi hz0 hz1 hz2 hzs hsz v m news hx h1 h63 hbytes
  unfold Oper.wp execOp
  simp only [ho, resolve, invoke, builtin, Sem.run_bind, Sem.run_pure, Result.andThen_ok, List.map_toArray, List.map_cons, List.map_nil, hs, hv, hr]
  exact h v' w' h2 h3 h4
theorem step_app_nil {P : Program} {w : World} {ops : Array Oper} {o : Oper} {a : Act} {K : Act → World → Prop} {Q : Exit → Act → World → Prop} {E : Prop} (hgd : o.guard = none) (s x : Operand) (t : TypeId)
    (ho : o.op = .call { callee := .builtin .append, args := #[s, x], argTypes := #[t, t] })
    (e : TypeId) (z : Value) (size bytes : Nat) (ht : P.underlying t = some (.slice e)) (hinfo : (P.info? e).map (fun i => (i.zero, i.size, i.bytes)) = some (some z, size, bytes)) (hzs : z.cells.size = size) (hsz : 0 < size)
    (hs : a.eval s = .slice none 0 0) (v : Value) (m : Nat) (news : List Value) (hv : a.eval x = v) (hx : w.ownsRow 0 e size v m news) (h1 : ∀ u ∈ news, u.oneCell' = true) (h63 : m ≤ maxLen) (hbytes : m * bytes ≤ 140737488355328)
    (h : ∀ v' w', w'.ownsRow 0 e size v' m news → Fr [] w w' → (∀ q, v'.ownBlock = some q → w.heap.size ≤ q) → K (a.put o.dst v') w') :
    if Region.wanted o (yielded ops a.tmps) = true then Oper.wp P o a w K Q else E := by
  rw [if_pos (by simp [Region.wanted, hgd])]
  exact wp_app_nil s x t ho e z size bytes ht hinfo hzs hsz hs v m news hv hx h1 h63 hbytes h
theorem wpList_app_nil {P : Program} {w : World} {ops : Array Oper} {rest : List Oper} {o : Oper} {a : Act} {Q : Exit → Act → World → Prop} (hgd : o.guard = none) (s x : Operand) (t : TypeId)
    (ho : o.op = .call { callee := .builtin .append, args := #[s, x], argTypes := #[t, t] })
    (e : TypeId) (z : Value) (size bytes : Nat) (ht : P.underlying t = some (.slice e)) (hinfo : (P.info? e).map (fun i => (i.zero, i.size, i.bytes)) = some (some z, size, bytes)) (hzs : z.cells.size = size) (hsz : 0 < size)
    (hs : a.eval s = .slice none 0 0) (v : Value) (m : Nat) (news : List Value) (hv : a.eval x = v) (hx : w.ownsRow 0 e size v m news) (h1 : ∀ u ∈ news, u.oneCell' = true) (h63 : m ≤ maxLen) (hbytes : m * bytes ≤ 140737488355328)
    (h : ∀ v' w', w'.ownsRow 0 e size v' m news → Fr [] w w' → (∀ q, v'.ownBlock = some q → w.heap.size ≤ q) → wpList P ops Q rest (a.put o.dst v') w') : wpList P ops Q (o :: rest) a w := by
  exact wpList_plain hgd fun K hK => wp_app_nil s x t ho e z size bytes ht hinfo hzs hsz hs v m news hv hx h1 h63 hbytes fun v' w' h2 h3 h4 => hK _ _ (h v' w' h2 h3 h4)
end Go.Proofs.Ytoppjjgecgbbkaa

/- A slice of one's own that lies in the midst of its block: a queue ('s = s[1:]', 's = append(s, x)'). -/
namespace Go.Proofs.Ytoppjjgecgbbkaa
open Go.RowKit

/-- The slice v holds xs; behind it there is room up to its capacity. -/
def Que (w : World) (e : TypeId) (v : Value) (xs : List Value) : Prop :=
  ∃ b off cap cur, v = .slice (some ⟨b, off, none⟩) xs.length cap ∧ w.heap[b]? = some (.cells cur e (0, 0)) ∧ xs.length ≤ cap ∧ cap ≤ maxLen ∧ off + cap ≤ cur.size ∧ ∀ j u, xs[j]? = some u → cur[off + j]? = some u

section
variable {w w' : World} {e : TypeId} {v : Value} {xs : List Value}
theorem Que.same (h : Que w e v xs) (hs : ∀ k, v.ownBlock = some k → w'.heap[k]? = w.heap[k]?) : Que w' e v xs := by
  obtain ⟨b, off, cap, cur, rfl, h1, h2⟩ := h
  exact ⟨b, off, cap, cur, rfl, by rw [hs b rfl]; exact h1, h2⟩
theorem Que.lt (h : Que w e v xs) : ∃ b, v.ownBlock = some b ∧ b < w.heap.size := by
  obtain ⟨b, off, cap, cur, rfl, h1, h2⟩ := h
  exact ⟨b, rfl, (Array.getElem?_eq_some_iff.1 h1).1⟩
theorem Que.of_row {n : Nat} (h : w.ownsRow 0 e 1 v n xs) (hn : 0 < n) : Que w e v xs := by
  obtain ⟨h1, h2⟩ := h
  rcases h2 with ⟨_, h2⟩ | ⟨g, cap, cur, rfl, _, hh, hnc, hm, hsz, hxs⟩
  · omega
  · simp only [Nat.mul_one] at *
    subst h1
    refine ⟨g, 0, cap, cur, rfl, hh, hnc, hm, by omega, fun j u hj => ?_⟩
    rw [← hxs, List.getElem?_take] at hj
    split at hj
    · simpa using hj
    · cases hj
theorem Que.head {x : Value} (h : Que w e v (x :: xs)) : ∃ b off cap, v = .slice (some ⟨b, off, none⟩) (xs.length + 1) cap ∧ xs.length + 1 ≤ cap ∧ w.cell? ⟨b, off, none⟩ = some x ∧
    Que w e (.slice (if cap = 1 then some ⟨b, off, none⟩ else some ⟨b, off + 1, none⟩) xs.length (cap - 1)) xs := by
  obtain ⟨b, off, cap, cur, rfl, h1, h2, h3, h4, h5⟩ := h
  refine ⟨b, off, cap, rfl, h2, ?_, ?_⟩
  · have := h5 0 x rfl
    simp [World.cell?, h1]; simpa using this
  · simp only [List.length_cons] at h2
    by_cases e1 : cap = 1
    · rw [if_pos e1]
      have hx0 : xs = [] := List.eq_nil_of_length_eq_zero (by omega)
      subst hx0
      exact ⟨b, off, cap - 1, cur, rfl, h1, by simp, by omega, by omega, fun j u hj => by simp at hj⟩
    · rw [if_neg e1]
      refine ⟨b, off + 1, cap - 1, cur, rfl, h1, by omega, by omega, by omega, fun j u hj => ?_⟩
      have := h5 (j + 1) u (by simpa using hj)
      rw [show off + 1 + j = off + (j + 1) by omega]; exact this
end

/-- 'append(s, x)' onto a queue. -/
theorem wpList_que {P : Program} {w : World} {ops : Array Oper} {rest : List Oper} {o : Oper} {a : Act} {Q : Exit → Act → World → Prop} (hgd : o.guard = none) (s x : Operand) (t : TypeId)
    (ho : o.op = .call { callee := .builtin .append, args := #[s, x], argTypes := #[t, t] })
    (e : TypeId) (z : Value) (bytes : Nat) (ht : P.underlying t = some (.slice e)) (hinfo : (P.info? e).map (fun i => (i.zero, i.size, i.bytes)) = some (some z, 1, bytes)) (hzs : z.cells.size = 1)
    (v : Value) (xs : List Value) (hs : a.eval s = v) (hown : Que w e v xs)
    (b : Nat) (u : Value) (hx : a.eval x = .slice (some ⟨b, 0, none⟩) 1 1) (hu : w.cell? ⟨b, 0, none⟩ = some u) (hu1 : u.oneCell' = true)
    (hn : xs.length + 1 ≤ 4294967296) (hby : bytes ≤ 1024)
    (h : ∀ v' w', Que w' e v' (xs ++ [u]) → w.grownBy w' v.ownBlock → (v'.ownBlock = v.ownBlock ∨ ∀ q, v'.ownBlock = some q → w.heap.size ≤ q) →
      wpList P ops Q rest (a.put o.dst v') w') : wpList P ops Q (o :: rest) a w := by
  obtain ⟨i0, hi, hz0, hz1, hz2⟩ := info_parts hinfo
  obtain ⟨g, off, cap, cur, rfl, q1, q2, q3, q4, q5⟩ := hown
  have hc1 : ∀ j y, [u][j]? = some y → w.cell? ((⟨b, 0, none⟩ : Addr).add j) = some y := by
    intro j y hj
    cases j with
    | zero => simp at hj; subst hj; exact hu
    | succ j => simp at hj
  refine wpList_append_arg w hgd s x t ho e i0 z 1 bytes ht hi hz0 hz1 hz2 hzs (by decide) g off xs.length cap xs hs (by simp) (fun j y hj => ?_) ⟨b, 0, none⟩ 1 1 [u] hx rfl hc1 (by simp [hu1]) (fun hr j hj => ?_) (by unfold maxLen; omega) ?_ (fun hr => ?_) (fun hr v' w' hv' hw' => ?_)
  · simp only [World.cell?, q1]; exact q5 j y hj
  · simp only [List.length_singleton] at hj
    obtain rfl : j = 0 := by omega
    simp only [World.cell?, World.frozen?, q1]
    have : off + xs.length * 1 + 0 < cur.size := by omega
    simp [this]
    omega
  · have : (xs.length + 1) * bytes ≤ 4294967296 * 1024 := Nat.mul_le_mul hn hby
    omega
  · have hlt : off + xs.length < cur.size := by omega
    have hset : w.setCells g (off + xs.length * 1) [u] = w.setCell ⟨g, off + xs.length, none⟩ u := by simp [World.setCells]
    rw [hset]
    have hgb : (w.setCell ⟨g, off + xs.length, none⟩ u).heap[g]? = some (.cells (cur.setIfInBounds (off + xs.length) u) e (0, 0)) := by
      simp only [World.setCell, Array.getElem?_modify]; simp [q1]
    refine h _ _ ⟨g, off, cap, _, by simp, hgb, by simp; omega, q3, by simpa using q4, ?_⟩ ?_ (.inl rfl)
    · intro j y hj
      rw [List.getElem?_append] at hj
      split at hj
      · rename_i hjl
        rw [Array.getElem?_setIfInBounds_ne (by omega)]; exact q5 j y hj
      · rename_i hjl
        have hj0 : j = xs.length := by
          rw [List.getElem?_eq_some_iff] at hj
          obtain ⟨h1, _⟩ := hj
          simp at h1; omega
        subst hj0
        simp at hj; subst hj
        simp [hlt]
    · exact ⟨rfl, rfl, rfl, by simp [World.setCell], fun k hk hne => Below.heap_setCell _ _ _ _ (fun e => hne (by simp [Value.ownBlock, e]))⟩
  · have hq : Que w' e v' (xs ++ [u]) := by
      refine Que.of_row (n := xs.length + 1) ?_ (by omega)
      exact ⟨hv'.1, hv'.2.elim .inl (fun ⟨g, cap, cur, k1, k2, k3⟩ => .inr ⟨g, cap, cur, k1, Nat.zero_le _, k3⟩)⟩
    refine h v' w' hq ⟨hw'.os, hw'.tape, hw'.output, hw'.size, fun k hk _ => hw'.block k hk (by simp)⟩ (.inr fun q hq => ?_)
    rcases hv'.2 with ⟨_, h0⟩ | ⟨g', cap', cur', rfl, hgb, _⟩
    · omega
    · simp [Value.ownBlock] at hq; omega
end Go.Proofs.Ytoppjjgecgbbkaa

namespace Go.Proofs.Ytoppjjgecgbbkaa
open Go.RowKit Classical
set_option maxRecDepth 10000
set_option maxHeartbeats 800000

def smallB (n : Int) (len : Nat) : Bool := decide (0 ≤ n) && (decide (n ≤ 120) && decide (len ≤ 120))
theorem small_w (w : World) (n : Int) (a : Option Addr) (len cap : Nat) (hl : len ≤ 9223372036854775807) :
    Calls Try.prog 12 #[.int .i64 n, .slice a len cap] w fun e w' => e = .returned (.bool (smallB n len)) ∧ w' = w := by
  by_cases h1 : 0 ≤ n
  · by_cases h2 : n ≤ 120
    · have d3 : decide ((len : Int) ≤ 120) = decide (len ≤ 120) := decide_eq_decide.2 (by omega)
      have e : smallB n len = decide (len ≤ 120) := by simp [smallB, h1, h2]
      rw [e, ← d3]; clear e d3
      go_enter Try.func12, Try.ntmps12
      go_wp2
      go_ret
      exact ⟨rfl, rfl⟩
    · have e : smallB n len = false := by simp [smallB, h2]
      rw [e]; clear e
      have d2 : decide (n ≤ 120) = false := decide_eq_false h2
      go_enter Try.func12, Try.ntmps12
      go_wp2
      go_ret
      exact ⟨rfl, rfl⟩
  · have e : smallB n len = false := by simp [smallB, h1]
    rw [e]; clear e
    have d1 : decide (0 ≤ n) = false := decide_eq_false h1
    go_enter Try.func12, Try.ntmps12
    go_wp2
    go_ret
    exact ⟨rfl, rfl⟩

/-- A forest that was made since the call began. -/
structure Own1 (w wr : World) (pf g n : Nat) (E : Nat → Nat → Prop) (key : Nat → Int) : Prop where
  lm : LM wr pf g n E key
  fr : Fr [] w wr
  pf : w.heap.size ≤ pf
  g : w.heap.size ≤ g
theorem Own1.next {w wr w' : World} {pf g n : Nat} {E E' : Nat → Nat → Prop} {key key' : Nat → Int} (h : Own1 w wr pf g n E key) (hl : LM w' pf g n E' key') (hf : Fr [pf, g] wr w') : Own1 w w' pf g n E' key' :=
  ⟨hl, h.fr.trans hf (fun b hb => .inr (by have h1 := h.pf; have h2 := h.g; simp at hb; omega)), h.pf, h.g⟩
theorem Own1.ask {w wr w' : World} {pf g n : Nat} {E : Nat → Nat → Prop} {key : Nat → Int} (h : Own1 w wr pf g n E key) (hl : LG w' pf g n E key ((n : Int) - nc n E)) (hf : Fr [g] wr w') : Own1 w w' pf g n E key :=
  h.next hl (hf.mono (fun b hb => .inl (by simp at hb; simp [hb])))
theorem Own1.drew {w wr : World} {pf g n : Nat} {E : Nat → Nat → Prop} {key : Nat → Int} (h : Own1 w wr pf g n E key) (k : Nat) : Own1 w (wr.drewN k) pf g n E key :=
  h.next (LG.fr h.lm ((Fr.refl [] wr).drewN k) (by simp) (by simp)) ((Fr.refl _ _).drewN k)
theorem Own1.below {w wr : World} {pf g n : Nat} {E : Nat → Nat → Prop} {key : Nat → Int} (h : Own1 w wr pf g n E key) : Below w.heap.size w wr := h.fr.below (by simp)

theorem link_facts {w w' : World} {pf g n : Nat} {E : Nat → Nat → Prop} {key : Nat → Int} (h : LM w pf g n E key) {a b : Int} (h' : LM w' pf g n (linkE n E a b) key) :
    (linkCode n E a b = 0 ∧ connB n E a b = false ∧ nc n (linkE n E a b) + 1 = nc n E) ∨ (linkCode n E a b ≠ 0 ∧ linkE n E a b = E ∧ (linkCode n E a b = 6 → connB n E a b = true)) := by
  by_cases hc : linkCode n E a b = 0
  · left
    have hE : linkE n E a b = addE E a.toNat b.toNat := by unfold linkE; rw [if_pos hc]
    have hv : inV n a = true ∧ inV n b = true := by
      apply Classical.byContradiction; intro e; unfold linkCode at hc; rw [if_neg e] at hc; cases hc
    have hab : a ≠ b := by
      intro e; unfold linkCode at hc; rw [if_pos hv, if_pos e] at hc; cases hc
    have hn : ¬ Conn E a.toNat b.toNat := by
      intro e; unfold linkCode at hc; rw [if_pos hv, if_neg hab, if_pos e] at hc; cases hc
    obtain ⟨x, rfl, hx⟩ := inV_nat hv.1
    obtain ⟨y, rfl, hy⟩ := inV_nat hv.2
    refine ⟨hc, ?_, ?_⟩
    · cases e : connB n E x y with
      | false => rfl
      | true => exact absurd ((connB_nat hx hy).1 e) hn
    · rw [hE]; rw [hE] at h'
      exact nc_add (LG.frs h) (LG.frs h') hn hx hy
  · right
    have hE : linkE n E a b = E := by unfold linkE; rw [if_neg hc]
    refine ⟨hc, hE, fun h6 => ?_⟩
    rw [connB_iff]
    have hv : inV n a = true ∧ inV n b = true := by
      apply Classical.byContradiction; intro e; unfold linkCode at h6; rw [if_neg e] at h6; cases h6
    refine ⟨hv.1, hv.2, ?_⟩
    apply Classical.byContradiction; intro e
    unfold linkCode at h6
    rw [if_pos hv] at h6
    by_cases hab : a = b
    · rw [if_pos hab] at h6; cases h6
    · rw [if_neg hab, if_neg e] at h6; cases h6

theorem link_codes (n : Nat) (E : Nat → Nat → Prop) (a b : Int) : linkCode n E a b = 0 ∨ linkCode n E a b = 3 ∨ linkCode n E a b = 6 ∨ linkCode n E a b = 9 := by
  unfold linkCode
  split
  · split
    · exact .inr (.inr (.inr rfl))
    · split
      · exact .inr (.inr (.inl rfl))
      · exact .inl rfl
  · exact .inr (.inl rfl)

theorem csize_succ (m : Nat) (E : Nat → Nat → Prop) (v : Nat) : csize (m + 1) E v = csize m E v + if Conn E v m then 1 else 0 := by
  unfold csize
  rw [List.range_succ, List.filter_append, List.length_append]
  by_cases h : Conn E v m <;> simp [h]
theorem nc_succ (m : Nat) (E : Nat → Nat → Prop) : nc (m + 1) E = nc m E + if IsFirst E m then 1 else 0 := by
  unfold nc
  rw [List.range_succ, List.filter_append, List.length_append]
  by_cases h : IsFirst E m <;> simp [h]

theorem walk_lctCounts (W : World) (n : Int) (wn : (Lit.int .i64 n).wf = true) (a : Option Addr) (len cap : Nat) (z : Nat → Int × Int) (hz : PairsF W a len z) :
    Calls Try.prog 3 #[.int .i64 n, .slice a len cap] W fun e w' => e = .returned (.bool true) ∧ Below W.heap.size W w' := by
  have hS := small_w W n a len cap hz.1
  have HZ := Lib.hid hz; clear hz
  cases hsm : smallB n len with
  | false =>
    rw [hsm] at hS
    have HS := Lib.hid hS; clear hS hsm
    go_enter Try.func3, Try.ntmps3
    go_wp2_with fail
    refine HS.out.mono ?_
    rintro _ w ⟨rfl, rfl⟩
    go_wp2_with fail
    refine (works_w w).mono ?_
    rintro _ w2 ⟨rfl, hB⟩
    go_wp2
    go_ret
    exact ⟨rfl, hB⟩
  | true =>
    rw [hsm] at hS
    have HS := Lib.hid hS; clear hS
    have hn : 0 ≤ n ∧ n ≤ 120 ∧ len ≤ 120 := by simp [smallB] at hsm; omega
    clear hsm
    obtain ⟨n, rfl⟩ : ∃ m : Nat, n = m := ⟨n.toNat, by omega⟩
    obtain ⟨_, hn1, hn2⟩ := hn
    have hn3 : n ≤ 120 := by omega
    go_enter Try.func3, Try.ntmps3
    go_wp2_with fail
    refine HS.out.mono ?_
    rintro _ w ⟨rfl, rfl⟩
    go_wp2_with fail
    refine (new_w n w (by omega)).mono ?_
    rintro _ w1 ⟨pf, g, rfl, h1, f1, hp, hg⟩
    have HO := Lib.hid (Own1.mk h1 f1 hp hg)
    have hnn := nc_none n
    clear h1 f1
    go_wp2
    go_loopw [7, 8] (fun x y wr => ∃ (k c : Nat) (E : Nat → Nat → Prop), k ≤ len ∧ y = .int .i64 k ∧ x = .int .i64 c ∧ Hid (c + nc n E = n) ∧ c ≤ 120 ∧ Hid (Own1 w wr pf g n E (fun _ => 0))) (fun _ y _ => len - (intOf y).toNat)
    case atStart => exact ⟨0, 0, fun _ _ => False, Nat.zero_le _, rfl, rfl, Lib.hid (by rw [hnn]; omega), by omega, HO⟩
    case round =>
      clear HO hnn HS
      obtain ⟨k, c, E, hk, rfl, rfl, HCn, hc120, HO⟩ := hrel
      by_cases hlt : k < len
      · obtain ⟨b, off, rfl, hb, q0, q1⟩ := (HZ.out.below HO.out.below).2 k hlt
        have hkl : (k : Int) < len := by omega
        generalize hz0 : (z k).1 = z0 at *
        generalize hz1 : (z k).2 = z1 at *
        have HZ01 := Lib.hid (And.intro hz0 hz1); clear hz0 hz1
        go_wp2
        refine region_one 11 (fun w' => Own1 w w' pf g n E (fun _ => 0)) (by kernel_rfl) (by kernel_rfl) (by kernel_rfl) ?_
        iterate 11 (refine gWalk_pre (by decide) (fun K hK => ?_); go_simp; refine hK _ ?_; clear hK K)
        refine gWalk_write rfl (.bool (connB n E z0 z1)) (fun w' hw' => ?_) ?_
        · obtain ⟨nq, rfl⟩ := hw'
          go_simp
          refine (connected_d (HO.out.drew nq).lm z0 z1).mono ?_
          rintro e w3 ⟨rfl, h3, f3⟩
          exact ⟨rfl, (HO.out.drew nq).ask h3 f3⟩
        refine gWalk_post (by decide) (fun K hK => ?_); go_simp; refine hK _ ?_; clear hK K
        refine gWalk_nil ?_
        rintro w2 hO2
        clear q0 q1 HO
        have HO := Lib.hid hO2; clear hO2
        obtain ⟨b', off', e, hb', q0, q1⟩ := (HZ.out.below HO.out.below).2 k hlt
        simp only [Option.some.injEq, Addr.mk.injEq, and_true] at e
        obtain ⟨rfl, rfl⟩ := e
        rw [HZ01.out.1] at q0
        rw [HZ01.out.2] at q1
        go_wp2
        refine region_one 11 (fun w' => Own1 w w' pf g n (linkE n E z0 z1) (fun _ => 0)) (by kernel_rfl) (by kernel_rfl) (by kernel_rfl) ?_
        iterate 11 (refine gWalk_pre (by decide) (fun K hK => ?_); go_simp; refine hK _ ?_; clear hK K)
        refine gWalk_write rfl (.int .i64 (linkCode n E z0 z1)) (fun w' hw' => ?_) ?_
        · obtain ⟨nq, rfl⟩ := hw'
          go_simp
          refine (link_w (HO.out.drew nq).lm z0 z1).mono ?_
          rintro e w3 ⟨rfl, h3, f3⟩
          exact ⟨rfl, (HO.out.drew nq).next h3 f3⟩
        refine gWalk_post (by decide) (fun K hK => ?_); go_simp; refine hK _ ?_; clear hK K
        refine gWalk_nil ?_
        rintro w3 hO3
        have HO3 := Lib.hid hO3; clear hO3
        have hfx := link_facts HO.out.lm HO3.out.lm
        have hcd := link_codes n E z0 z1
        clear q0 q1 HO
        have hnc1 := nc_le n E
        have hnc2 := nc_le n (linkE n E z0 z1)
        have hT := Lib.hid (trees_w HO3.out.lm)
        rcases hfx with ⟨f1, f2, f3⟩ | ⟨f1, f2, f3⟩
        · rw [f1, f2]
          have hbn : ((nc n (linkE n E z0 z1) : Int) != (n : Int) - ((c : Int) + 1)) = false := by
            have := HCn.out
            simp; omega
          have Hf3 := Lib.hid f3; clear f3 hcd f1 f2
          have hc2 : c + 1 ≤ 120 := by have := HCn.out; have := Hf3.out; omega
          go_wp2_with fail
          refine hT.out.mono ?_
          rintro _ _ ⟨rfl, kq, rfl⟩
          go_wp2
          go_roundw
          case rel => exact ⟨k + 1, c + 1, _, by omega, by go_num, by go_num, Lib.hid (by have := HCn.out; have := Hf3.out; omega), hc2, Lib.hid (HO3.out.drew kq)⟩
          case measure => simp [intOf]; omega
        · have hbn : ((nc n (linkE n E z0 z1) : Int) != (n : Int) - (c : Int)) = false := by
            have := HCn.out
            rw [f2]; simp; omega
          have Hf2 := Lib.hid f2; clear f2
          rcases hcd with e | e | e | e
          · exact absurd e f1
          · rw [e]
            clear f1 f3 e
            cases connB n E z0 z1 <;>
            · go_wp2_with fail
              refine hT.out.mono ?_
              rintro _ _ ⟨rfl, kq, rfl⟩
              go_wp2
              go_roundw
              case rel => exact ⟨k + 1, c, _, by omega, by go_num, rfl, Lib.hid (by rw [Hf2.out]; exact HCn.out), hc120, Lib.hid (HO3.out.drew kq)⟩
              case measure => simp [intOf]; omega
          · rw [f3 e, e]
            clear f1 f3 e
            go_wp2_with fail
            refine hT.out.mono ?_
            rintro _ _ ⟨rfl, kq, rfl⟩
            go_wp2
            go_roundw
            case rel => exact ⟨k + 1, c, _, by omega, by go_num, rfl, Lib.hid (by rw [Hf2.out]; exact HCn.out), hc120, Lib.hid (HO3.out.drew kq)⟩
            case measure => simp [intOf]; omega
          · rw [e]
            clear f1 f3 e
            cases connB n E z0 z1 <;>
            · go_wp2_with fail
              refine hT.out.mono ?_
              rintro _ _ ⟨rfl, kq, rfl⟩
              go_wp2
              go_roundw
              case rel => exact ⟨k + 1, c, _, by omega, by go_num, rfl, Lib.hid (by rw [Hf2.out]; exact HCn.out), hc120, Lib.hid (HO3.out.drew kq)⟩
              case measure => simp [intOf]; omega
      · clear HCn hc120
        have Hfs := Lib.hid (LG.frs HO.out.lm)
        go_wp2
        go_loopw [11, 12] (fun x y wr => ∃ v : Nat, v ≤ n ∧ y = .int .i64 v ∧ x = .int .i64 (nc v E : Nat) ∧ Hid (Own1 w wr pf g n E (fun _ => 0))) (fun _ y _ => n - (intOf y).toNat)
        case atStart => exact ⟨0, Nat.zero_le _, rfl, rfl, HO⟩
        case round =>
          clear HO
          obtain ⟨v, hv, rfl, rfl, HO⟩ := hrel
          have hncv := nc_le v E
          by_cases hvn : v < n
          · go_wp2
            go_loopw [13, 14, 15] (fun x s y wr => ∃ u : Nat, u ≤ n ∧ y = .int .i64 u ∧ s = .int .i64 (csize u E v : Nat) ∧ x = .bool (decide (∀ q, q < u → Conn E v q → v ≤ q)) ∧ Hid (Own1 w wr pf g n E (fun _ => 0))) (fun _ _ y _ => n - (intOf y).toNat)
            case atStart => exact ⟨0, Nat.zero_le _, rfl, rfl, by simp, HO⟩
            case round =>
              clear HO
              obtain ⟨u, hu, rfl, rfl, rfl, HO⟩ := hrel
              have hcs := csize_le u E v
              by_cases hun : u < n
              · have hC := connected_d HO.out.lm (v : Int) (u : Int)
                by_cases hc : Conn E v u
                · rw [(connB_nat hvn hun).2 hc] at hC
                  have HC := Lib.hid hC; clear hC
                  have e1 : csize (u + 1) E v = csize u E v + 1 := by rw [csize_succ, if_pos hc]
                  have e2 : decide (∀ q, q < u + 1 → Conn E v q → v ≤ q) = (decide (∀ q, q < u → Conn E v q → v ≤ q) && decide ((v : Int) ≤ u)) := by
                    rw [Bool.eq_iff_iff]
                    simp only [decide_eq_true_eq, Bool.and_eq_true]
                    constructor
                    · intro h; exact ⟨fun q hq => h q (by omega), by have := h u (by omega) hc; omega⟩
                    · rintro ⟨h1, h2⟩ q hq hcq
                      by_cases e : q = u
                      · omega
                      · exact h1 q (by omega) hcq
                  have He := Lib.hid (And.intro e1 e2); clear e1 e2
                  have Hc := Lib.hid hc; clear hc
                  generalize hdd : decide (∀ q, q < u → Conn E v q → v ≤ q) = dd at *
                  clear hdd
                  cases dd with
                  | true =>
                    go_wp2_with fail
                    refine HC.out.mono ?_
                    rintro _ w4 ⟨rfl, h4, f4⟩
                    go_wp2
                    go_roundw
                    case rel => exact ⟨u + 1, by omega, by go_num, by rw [He.out.1]; go_num, by rw [He.out.2]; simp, Lib.hid (HO.out.ask h4 f4)⟩
                    case measure => simp [intOf]; omega
                  | false =>
                    go_wp2_with fail
                    refine HC.out.mono ?_
                    rintro _ w4 ⟨rfl, h4, f4⟩
                    go_wp2
                    go_roundw
                    case rel => exact ⟨u + 1, by omega, by go_num, by rw [He.out.1]; go_num, by rw [He.out.2]; simp, Lib.hid (HO.out.ask h4 f4)⟩
                    case measure => simp [intOf]; omega
                · have hcf : connB n E v u = false := by
                    cases e : connB n E v u with
                    | false => rfl
                    | true => exact absurd ((connB_nat hvn hun).1 e) hc
                  rw [hcf] at hC
                  have HC := Lib.hid hC; clear hC hcf
                  have e1 : csize (u + 1) E v = csize u E v := by rw [csize_succ, if_neg hc]; rfl
                  have e2 : decide (∀ q, q < u + 1 → Conn E v q → v ≤ q) = decide (∀ q, q < u → Conn E v q → v ≤ q) := by
                    rw [decide_eq_decide]
                    constructor
                    · intro h q hq; exact h q (by omega)
                    · intro h q hq hcq
                      by_cases e : q = u
                      · rw [e] at hcq; exact absurd hcq hc
                      · exact h q (by omega) hcq
                  have He := Lib.hid (And.intro e1 e2); clear e1 e2 hc
                  go_wp2_with fail
                  refine HC.out.mono ?_
                  rintro _ w4 ⟨rfl, h4, f4⟩
                  go_wp2
                  go_roundw
                  case rel => exact ⟨u + 1, by omega, by go_num, by rw [He.out.1], by rw [He.out.2], Lib.hid (HO.out.ask h4 f4)⟩
                  case measure => simp [intOf]; omega
              · obtain rfl : u = n := by omega
                have hSz := size_w HO.out.lm (v : Int)
                rw [if_pos (show inV u (v : Int) = true by simp [inV]; omega), Int.toNat_natCast] at hSz
                have HSz := Lib.hid hSz; clear hSz
                have hd : decide (∀ q, q < u → Conn E v q → v ≤ q) = decide (IsFirst E v) := by
                  rw [decide_eq_decide]
                  constructor
                  · intro h q hq hc; have := h q (by omega) hc; omega
                  · intro h q hq hc
                    apply Classical.byContradiction; intro e
                    exact h q (by omega) hc
                rw [hd]
                clear hd
                have Hnc := Lib.hid (nc_succ v E)
                by_cases hf : IsFirst E v
                · have df : decide (IsFirst E v) = true := decide_eq_true hf
                  rw [df]
                  have Hnc2 := Lib.hid (show nc (v + 1) E = nc v E + 1 by rw [Hnc.out, if_pos hf])
                  clear df hf Hnc
                  go_wp2_with fail
                  refine HSz.out.mono ?_
                  rintro _ w4 ⟨rfl, h4, f4⟩
                  go_wp2
                  go_roundw
                  case rel => exact ⟨v + 1, by omega, by go_num, by rw [Hnc2.out]; go_num, Lib.hid (HO.out.ask h4 f4)⟩
                  case measure => simp [intOf]; omega
                · have df : decide (IsFirst E v) = false := decide_eq_false hf
                  rw [df]
                  have Hnc2 := Lib.hid (show nc (v + 1) E = nc v E by rw [Hnc.out, if_neg hf]; rfl)
                  clear df hf Hnc
                  go_wp2_with fail
                  refine HSz.out.mono ?_
                  rintro _ w4 ⟨rfl, h4, f4⟩
                  go_wp2
                  go_roundw
                  case rel => exact ⟨v + 1, by omega, by go_num, by rw [Hnc2.out], Lib.hid (HO.out.ask h4 f4)⟩
                  case measure => simp [intOf]; omega
          · obtain rfl : v = n := by omega
            go_wp2_with fail
            refine (trees_w HO.out.lm).mono ?_
            rintro _ _ ⟨rfl, kq, rfl⟩
            go_wp2_with fail
            refine (works_w _).mono ?_
            rintro _ w5 ⟨rfl, hB⟩
            go_wp2
            go_ret
            exact ⟨rfl, (HO.out.drew kq).below.trans (hB.mono (HO.out.drew kq).fr.size)⟩

end Go.Proofs.Ytoppjjgecgbbkaa
