/- lct: Meet. -/
import Derived.Test.YtoppjjgecgbbkaaLctAsk
namespace Go.Proofs.Ytoppjjgecgbbkaa
open Go.RowKit
set_option maxRecDepth 10000
set_option maxHeartbeats 800000

/-- The one vertex that lies on all three paths. -/
def MeetsAt (E : Nat → Nat → Prop) (a b c m : Nat) : Prop := ∃ p q r, IsPath E a b p ∧ IsPath E b c q ∧ IsPath E c a r ∧ ∀ x, (x ∈ p ∧ x ∈ q ∧ x ∈ r) ↔ x = m

theorem meet_paths {E : Nat → Nat → Prop} (h : Frs E) {a b c m : Nat} {A Rq Bq : List Nat} (h1 : IsPath E a b (A ++ m :: Rq)) (h2 : IsPath E a c (A ++ m :: Bq)) (hd : ∀ x ∈ Bq, x ∉ A ++ m :: Rq) : MeetsAt E a b c m := by
  have hs : ∀ v u, E v u → E u v := fun _ _ e => h.symm e
  have r2 := h2.rev hs
  have e1 := h1.split.2.rev hs
  have e2 := h2.split.2
  rw [List.reverse_cons] at e1
  have n1 := List.nodup_append.1 h1.nd
  have n2 := List.nodup_append.1 h2.nd
  have n1c := List.nodup_cons.1 n1.2.1
  have n2c := List.nodup_cons.1 n2.2.1
  have hq : IsPath E b c (Rq.reverse ++ m :: Bq) := by
    refine e1.join e2 ?_
    rw [List.nodup_append]
    refine ⟨(List.reverse_perm _).nodup_iff.2 n1c.2, n2.2.1, fun x hx y hy => ?_⟩
    rw [List.mem_reverse] at hx
    rintro rfl
    rcases List.mem_cons.1 hy with rfl | hy
    · exact n1c.1 hx
    · exact hd x hy (by simp [hx])
  refine ⟨_, _, _, h1, hq, r2, fun x => ⟨?_, ?_⟩⟩
  · rintro ⟨p1, p2, p3⟩
    simp only [List.mem_append, List.mem_cons, List.mem_reverse] at p1 p2 p3
    rcases p2 with p2 | p2 | p2
    · rcases p3 with p3 | p3 | p3
      · exact absurd rfl (n1.2.2 x p3 x (by simp [p2]))
      · exact p3
      · exact absurd (by simp [p2]) (hd x p3)
    · exact p2
    · exact absurd (by simpa using p1) (hd x p2)
  · rintro rfl; simp

theorem meet_w {w : World} {pf g n : Nat} {E : Nat → Nat → Prop} {key : Nat → Int} {ed : Int} (h : LG w pf g n E key ed) (a b c : Int) :
    Calls Try.prog 20 #[.pointer (some ⟨pf, 0, none⟩), .int .i64 a, .int .i64 b, .int .i64 c] w fun e w' =>
      ((¬ (ConnI n E a b ∧ ConnI n E b c) ∧ e = .returned (.tuple #[.int .i64 0, .bool false])) ∨ ∃ v u x m : Nat, a = v ∧ b = u ∧ c = x ∧ v < n ∧ u < n ∧ x < n ∧ m < n ∧ MeetsAt E v u x m ∧ e = .returned (.tuple #[.int .i64 m, .bool true])) ∧ LG w' pf g n E key ed ∧ Fr [g] w w' := by
  go_enter Try.func20, Try.ntmps20
  go_wp2_with fail
  refine (connected_w h a b).mono ?_
  rintro _ w2 ⟨r, rfl, hr, h2, hF2⟩
  have HR := Lib.hid hr; clear hr
  cases r with
  | false =>
    have H2 := Lib.hid h2; clear h2 h
    go_wp2
    go_ret2
    exact ⟨.inl ⟨fun e => (by have := HR.out.2 e.1; cases this), rfl⟩, H2.out, hF2⟩
  | true =>
    have HC := Lib.hid (HR.out.1 rfl)
    clear HR
    go_wp2_with fail
    refine (connected_w h2 b c).mono ?_
    rintro _ w3 ⟨r, rfl, hr, h3, hF3⟩
    have HR2 := Lib.hid hr; clear hr
    cases r with
    | false =>
      have H3 := Lib.hid h3; clear h3 h2 h
      go_wp2
      go_ret2
      exact ⟨.inl ⟨fun e => (by have := HR2.out.2 e.2; cases this), rfl⟩, H3.out, hF2.then hF3⟩
    | true =>
      obtain ⟨va, vb, hc⟩ := HC.out
      obtain ⟨_, vc, hc2⟩ := HR2.out.1 rfl
      obtain ⟨v, rfl, hv⟩ := inV_nat va
      obtain ⟨u, rfl, hu⟩ := inV_nat vb
      obtain ⟨x, rfl, hx⟩ := inV_nat vc
      clear va vb vc HC HR2 h h2
      have hfrs := h3.frs
      obtain ⟨cap, σ, F, par, d, rt, hL, hF, hE, hk⟩ := h3
      have hrt := (conn_rt hF.rtd hE).1 hc
      have hrt2 := (conn_rt hF.rtd hE).1 hc2
      simp only [Int.toNat_natCast] at hrt hrt2
      have HF := Lib.hid hF; clear hF
      have HE := Lib.hid hE; clear hE
      have HK := Lib.hid hk; clear hk
      have HFs := Lib.hid hfrs; clear hfrs
      have hN := hL.le
      go_wp2_with fail
      refine (path_v hL HF.out v u hv hu).mono ?_
      rintro _ w4 ⟨rfl, τ, l, R, par', d', rt', hL4, hP, hF4⟩
      have HP := Lib.hid hP; clear hP
      go_wp2_with fail
      refine (expose_v hL4 HP.out.lf x hx).mono ?_
      rintro _ w5 ⟨m, τ5, l5, R5, rfl, hL5, hE5, hF5⟩
      have hm : ∃ m', m = m' + 1 ∧ m' < n ∧ MeetsAt E v u x m' := by
        have hP := HP.out
        obtain ⟨T0, A, Bq, Rq, q1, q2, q3, q4⟩ := hE5.meets
        obtain ⟨p, hp1, hp2, hp3⟩ := hP.at HE.out hrt
        obtain ⟨hn, hz, hcc⟩ := hE5.lf.top_seq
        -- the top path is that of u
        have rxu : rt' (x + 1) = rt' (u + 1) := (hP.rts _ _).2 hrt2.symm
        have hmT : m ∈ T0.nodes := seq_mem.1 (by rw [q2]; simp)
        have hmN := hP.lf.lt q1 hmT
        have hmx : rt' m = rt' (x + 1) := by
          have hmS : m ∈ l5.seq ++ [x + 1] := by rw [q3]; simp
          have hxS : x + 1 ∈ l5.seq ++ [x + 1] := by simp
          generalize l5.seq ++ [x + 1] = s at *
          cases s with
          | nil => cases hmS
          | cons y s => rw [ch_rt_head hE5.lf.rt0 hE5.lf.rt1 hcc hz m hmS, ch_rt_head hE5.lf.rt0 hE5.lf.rt1 hcc hz _ hxS]
        have hT0 : T0 = .node false l (u + 1) .nil := by
          rcases List.mem_cons.1 q1 with e | e
          · exact (Prod.mk.inj e).1
          · exfalso
            have c1 := hP.lf.ch _ (List.mem_cons_self)
            have c2 := hP.lf.ch _ q1
            have z1 := hP.lf.seq0 (List.mem_cons_self)
            have z2 := hP.lf.seq0 q1
            have su : u + 1 ∈ (BT.node false l (u + 1) .nil).seq := seq_mem.2 (by simp [BT.nodes])
            have sm := seq_mem.2 hmT
            have hdis := hP.lf.disj e
            dsimp only at c1 c2 z1 z2 hdis
            cases hs1 : (BT.node false l (u + 1) BT.nil).seq with
            | nil => rw [hs1] at su; cases su
            | cons y1 s1 =>
              cases hs2 : T0.seq with
              | nil => rw [hs2] at sm; cases sm
              | cons y2 s2 =>
                have my1 : y1 ∈ (BT.node false l (u + 1) BT.nil).nodes := seq_mem.1 (by rw [hs1]; simp)
                have my2 : y2 ∈ T0.nodes := seq_mem.1 (by rw [hs2]; simp)
                rw [hs1] at c1 z1 su; rw [hs2] at c2 z2 sm
                have ra := ch_rt_head hP.lf.rt0 hP.lf.rt1 c1 z1 _ su
                have rb := ch_rt_head hP.lf.rt0 hP.lf.rt1 c2 z2 _ sm
                have hyy : y1 = y2 := by rw [← ra, ← rb, hmx, rxu]
                exact hdis y1 my1 (hyy ▸ my2)
        subst hT0
        have hs : (BT.node false l (u + 1) BT.nil).seq = p.map (· + 1) := by rw [hp2]; simp [BT.seq]
        rw [hs] at q2
        -- both paths over the vertices
        have h1 : IsPath (Adj par) (v + 1) (u + 1) (A ++ m :: Rq) := by rw [← q2]; exact (path_shift HE.out).1 hp1
        have h2 : IsPath (Adj par) (v + 1) (x + 1) (A ++ m :: Bq) := by
          rw [← q3]
          have hl : (l5.seq ++ [x + 1]).getLast? = some (x + 1) := last_snoc _ _
          have hxS : x + 1 ∈ l5.seq ++ [x + 1] := by simp
          have rv : rt' (x + 1) = v + 1 := by rw [rxu, ← (hP.rts _ _).2 hrt, hP.rti]
          generalize l5.seq ++ [x + 1] = s at *
          cases s with
          | nil => cases hxS
          | cons y s =>
            have hy : y = v + 1 := by rw [← ch_rt_head hE5.lf.rt0 hE5.lf.rt1 hcc hz _ hxS, rv]
            subst hy
            have : IsPath (Adj par') (v + 1) (x + 1) ((v + 1) :: s) := ⟨s, rfl, ch_wk (by omega) (fun z hz' => hz z (by simp [hz'])) hcc.2, hn, hl⟩
            exact this.mono (fun a b => (hP.adj a b).1)
        obtain ⟨m', rfl⟩ : ∃ m', m = m' + 1 := ⟨m - 1, by omega⟩
        have g1 := (path_unshift HE.out h1).1
        have g2 := (path_unshift HE.out h2).1
        rw [List.map_append, List.map_cons] at g1 g2
        have z3 : ∀ z ∈ Bq, z ≠ 0 := fun z hz' => hz z (by rw [q3]; simp [hz'])
        refine ⟨m', rfl, by omega, meet_paths HFs.out g1 g2 (fun y hy hy2 => ?_)⟩
        obtain ⟨z, hz1, rfl⟩ := List.mem_map.1 hy
        have hzn : z ∈ A ++ (m' + 1) :: Rq := by
          have e2 : (A ++ (m' + 1) :: Rq).map (· - 1) = A.map (· - 1) ++ m' :: Rq.map (· - 1) := by simp
          rw [← e2] at hy2
          obtain ⟨z', hz2, e⟩ := List.mem_map.1 hy2
          have h0' : z' ≠ 0 := by rw [← q2] at hz2; obtain ⟨k, _, rfl⟩ := List.mem_map.1 hz2; omega
          have := z3 z hz1
          have : z' = z := by omega
          rw [← this]; exact hz2
        refine q4 z hz1 (seq_mem.1 ?_)
        rw [hs, q2]; exact hzn
      obtain ⟨m', rfl, hmn, hm⟩ := hm
      have HM := Lib.hid hm; clear hm
      have HE5 := Lib.hid hE5; clear hE5
      have hw1 : ((m' + 1 : Nat) : Int) - 1 = m' := by omega
      go_wp2
      go_ret2
      refine ⟨.inr ⟨v, u, x, m', rfl, rfl, rfl, hv, hu, hx, hmn, HM.out, rfl⟩, ⟨cap, τ5, _, par', d', rt', hL5, HE5.out.lf, fun a b => (HE.out a b).trans (HP.out.adj _ _).symm, fun y hy => by rw [HE5.out.key, HP.out.key]; exact HK.out y hy⟩, hF2.then (hF3.then (hF4.then hF5))⟩

end Go.Proofs.Ytoppjjgecgbbkaa
