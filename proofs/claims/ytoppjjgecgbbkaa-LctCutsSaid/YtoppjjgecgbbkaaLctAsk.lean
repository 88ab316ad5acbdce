/- lct: Size, Trees, Dist. -/
import Derived.Test.YtoppjjgecgbbkaaLctApi
import Derived.Test.YtoppjjgecgbbkaaLctComp
namespace Go.Proofs.Ytoppjjgecgbbkaa
open Go.RowKit
set_option maxRecDepth 10000
set_option maxHeartbeats 800000

theorem path_v {w : World} {pf g n cap : Nat} {σ : Tbl} {ed : Int} (h : LctAt w pf g (n + 1) cap σ ed) {par d rt : Nat → Nat} {F : Fst} (hF : LF (n + 1) σ F par d rt) (v u : Nat) (hv : v < n) (hu : u < n) :
    Calls Try.prog 38 #[.pointer (some ⟨pf, 0, none⟩), .int .i64 ((v : Int) + 1), .int .i64 ((u : Int) + 1)] w fun e w' => e = .returned (.tuple #[]) ∧ ∃ τ l R par' d' rt', LctAt w' pf g (n + 1) cap τ ed ∧ Pathed (n + 1) σ par rt (v + 1) (u + 1) τ l R par' d' rt' ∧ Fr [g] w w' :=
  path_w h hF (v + 1) (u + 1) (by omega) (by omega) (by omega) (by omega)

theorem Pathed.lg {w : World} {pf g n cap : Nat} {σ τ : Tbl} {E : Nat → Nat → Prop} {key : Nat → Int} {ed : Int} {par rt par' d' rt' : Nat → Nat} {i j : Nat} {l : BT} {R : Fst} (h : Pathed (n + 1) σ par rt i j τ l R par' d' rt') (hL : LctAt w pf g (n + 1) cap τ ed)
    (hE : ∀ v u, E v u ↔ Adj par (v + 1) (u + 1)) (hk : ∀ v, v < n → (σ (v + 1)).key = key v) : LG w pf g n E key ed :=
  ⟨cap, τ, _, par', d', rt', hL, h.lf, fun v u => (hE v u).trans (h.adj _ _).symm, fun v hv => by rw [h.key]; exact hk v hv⟩

/-- The path, told over the vertices. -/
theorem Pathed.at {n : Nat} {σ τ : Tbl} {E : Nat → Nat → Prop} {par rt par' d' rt' : Nat → Nat} {v u : Nat} {l : BT} {R : Fst} (h : Pathed (n + 1) σ par rt (v + 1) (u + 1) τ l R par' d' rt')
    (hE : ∀ v u, E v u ↔ Adj par (v + 1) (u + 1)) (hr : rt (v + 1) = rt (u + 1)) : ∃ p, IsPath E v u p ∧ p.map (· + 1) = l.seq ++ [u + 1] ∧ (∀ x ∈ p, x < n) := by
  obtain ⟨h1, h2⟩ := path_unshift hE (h.path hr)
  refine ⟨_, h1, h2, fun x hx => ?_⟩
  have : x + 1 ∈ l.seq ++ [u + 1] := by rw [← h2]; exact List.mem_map.2 ⟨x, hx, rfl⟩
  have hm : x + 1 ∈ (BT.node false l (u + 1) .nil).nodes := by rw [← seq_mem]; simpa [BT.seq] using this
  have := (h.lf.lt (List.mem_cons_self) hm).2
  omega

theorem LG.csize {w : World} {pf g n : Nat} {E : Nat → Nat → Prop} {key : Nat → Int} {ed : Int} (h : LG w pf g n E key ed) : n ≤ 65536 := h.lts.2.2

theorem size_w {w : World} {pf g n : Nat} {E : Nat → Nat → Prop} {key : Nat → Int} {ed : Int} (h : LG w pf g n E key ed) (a : Int) :
    Calls Try.prog 18 #[.pointer (some ⟨pf, 0, none⟩), .int .i64 a] w fun e w' => e = .returned (.int .i64 (if inV n a then (csize n E a.toNat : Int) else 0)) ∧ LG w' pf g n E key ed ∧ Fr [g] w w' := by
  have H := Lib.hid h
  obtain ⟨cap, σ, F, par, d, rt, hL, hF, hE, hk⟩ := h
  have HF := Lib.hid hF; clear hF
  have HE := Lib.hid hE; clear hE
  have HK := Lib.hid hk; clear hk
  have hN := hL.le
  have A1 := has_w hL a
  cases hva : inV n a with
  | false =>
    rw [hva] at A1
    have HA := Lib.hid A1; clear A1 hva
    go_enter Try.func18, Try.ntmps18
    go_wp2_with fail
    refine HA.out.mono ?_
    rintro _ w ⟨rfl, rfl⟩
    go_wp2
    go_ret
    exact ⟨rfl, H.out, Fr.refl _ _⟩
  | true =>
    rw [hva] at A1
    have HA := Lib.hid A1; clear A1
    obtain ⟨v, rfl, hv⟩ := inV_nat hva
    clear hva
    go_enter Try.func18, Try.ntmps18
    go_wp2_with fail
    refine HA.out.mono ?_
    rintro _ w ⟨rfl, rfl⟩
    go_wp2_with fail
    refine (expose_v hL HF.out v hv).mono ?_
    rintro _ w2 ⟨m1, τ1, l1, R1, rfl, hL1, hE1, hF1⟩
    have hres : (τ1 (v + 1)).total = (csize n E v : Int) := by
      have h1 := (hE1.lf.rep _ (List.mem_cons_self)).2.2.2.2.1
      have h2 := hE1.lf.size (x := v + 1) (by simp [BT.nodes])
      rw [h1, h2]
      have hp : (fnodes ((BT.node false l1 (v + 1) BT.nil, 0) :: R1)).Perm ((List.range n).map (· + 1)) := by
        refine (List.perm_ext_iff_of_nodup hE1.lf.nd (nodup_map_succ.2 List.nodup_range)).2 (fun x => ?_)
        rw [hE1.lf.mem]
        simp only [List.mem_map, List.mem_range]
        exact ⟨fun h => ⟨x - 1, by omega, by omega⟩, fun ⟨y, hy, e⟩ => by omega⟩
      have e : ((fnodes ((BT.node false l1 (v + 1) BT.nil, 0) :: R1)).filter (fun y => decide (rt y = rt (v + 1)))).length = csize n E v := by
        rw [(hp.filter _).length_eq, List.filter_map, List.length_map]
        unfold Proofs.Ytoppjjgecgbbkaa.csize
        congr 1
        refine List.filter_congr (fun x _ => ?_)
        show decide (rt (x + 1) = rt (v + 1)) = _
        refine decide_eq_decide.2 ?_
        rw [conn_rt HF.out.rtd HE.out]; exact eq_comm
      rw [e]
      have := csize_le n E v
      unfold wrap64; omega
    have HE1 := Lib.hid hE1; clear hE1
    have a8 := hL1.nodes.c8 (v + 1) (by omega)
    rw [hres] at a8
    clear hres
    have d1 := hL1.hd.cell 1
    simp only [List.getElem?_cons_zero, List.getElem?_cons_succ] at d1
    have hv2 : ((v + 1 : Nat) : Int) < ((n + 1 : Nat) : Int) := by omega
    go_wp2
    go_ret
    exact ⟨rfl, ⟨cap, τ1, _, par, d, rt, hL1, HE1.out.lf, HE.out, fun x hx => by rw [HE1.out.key]; exact HK.out x hx⟩, hF1⟩

/-- A forest whose header counts its edges. -/
def LM (w : World) (pf g n : Nat) (E : Nat → Nat → Prop) (key : Nat → Int) : Prop := LG w pf g n E key ((n : Int) - nc n E)

theorem trees_w {w : World} {pf g n : Nat} {E : Nat → Nat → Prop} {key : Nat → Int} (h : LM w pf g n E key) :
    Calls Try.prog 17 #[.pointer (some ⟨pf, 0, none⟩)] w fun e w' => e = .returned (.int .i64 (nc n E)) ∧ ∃ k, w' = w.drewN k := by
  have hn := LG.csize h
  obtain ⟨cap, σ, F, par, d, rt, hL, hF, hE, hk⟩ := h
  clear hF hE hk
  have hnc := nc_le n E
  generalize nc n E = q at *
  have c0 := hL.hd.cell 0
  have c1 := hL.hd.cell 1
  have c2 := hL.hd.cell 2
  simp only [List.getElem?_cons_zero, List.getElem?_cons_succ] at c0 c1 c2
  have hV := Lib.hid (valid_w c0)
  have hw1 : IntKind.i64.wrap ((n : Int) - ((n : Int) - q)) = q := by rw [show (n : Int) - ((n : Int) - q) = q by omega]; exact IntWalk.i64_in _ (by omega)
  clear hL
  go_enter Try.func17, Try.ntmps17
  go_wp2_with fail
  refine hV.out.mono ?_
  rintro _ w ⟨rfl, rfl⟩
  go_wp2
  go_quiet (fail)
  go_wp2
  go_ret
  exact ⟨ret_int (by omega), _, rfl⟩

theorem dist_w {w : World} {pf g n : Nat} {E : Nat → Nat → Prop} {key : Nat → Int} {ed : Int} (h : LG w pf g n E key ed) (a b : Int) :
    Calls Try.prog 21 #[.pointer (some ⟨pf, 0, none⟩), .int .i64 a, .int .i64 b] w fun e w' => ∃ x : Int, e = .returned (.int .i64 x) ∧ ((¬ ConnI n E a b ∧ x = -1) ∨ ∃ (v u : Nat) (p : List Nat), a = v ∧ b = u ∧ v < n ∧ u < n ∧ IsPath E v u p ∧ x = (p.length : Int) - 1) ∧ LG w' pf g n E key ed ∧ Fr [g] w w' := by
  go_enter Try.func21, Try.ntmps21
  go_wp2_with fail
  refine (connected_w h a b).mono ?_
  rintro _ w2 ⟨r, rfl, hr, h2, hF2⟩
  have HR := Lib.hid hr; clear hr
  cases r with
  | false =>
    have H2 := Lib.hid h2; clear h2 h
    go_wp2
    go_ret
    exact ⟨-1, rfl, .inl ⟨fun e => (by have := HR.out.2 e; cases this), rfl⟩, H2.out, hF2⟩
  | true =>
    obtain ⟨va, vb, hc⟩ := HR.out.1 rfl
    obtain ⟨v, rfl, hv⟩ := inV_nat va
    obtain ⟨u, rfl, hu⟩ := inV_nat vb
    clear va vb HR h
    obtain ⟨cap, σ, F, par, d, rt, hL, hF, hE, hk⟩ := h2
    have hrt := (conn_rt hF.rtd hE).1 hc
    have HF := Lib.hid hF; clear hF
    have HE := Lib.hid hE; clear hE
    have HK := Lib.hid hk; clear hk
    have hN := hL.le
    go_wp2_with fail
    refine (path_v hL HF.out v u hv hu).mono ?_
    rintro _ w3 ⟨rfl, τ, l, R, par', d', rt', hL3, hP, hF3⟩
    obtain ⟨p, hp1, hp2, hp3⟩ := hP.at HE.out hrt
    have hpl : (τ (u + 1)).size = (p.length : Int) ∧ p.length ≤ n ∧ 0 < p.length := by
      have h1 := (hP.lf.rep _ (List.mem_cons_self)).2.2.2.1
      have h2 : (BT.node false l (u + 1) .nil).nodes.length = p.length := by
        rw [← (BT.seq_perm _).length_eq]
        have := congrArg List.length hp2
        simpa [BT.seq] using this.symm
      have h3 := nodup_le hp1.nd hp3
      have h4 : 0 < p.length := List.length_pos_iff.2 hp1.ne
      refine ⟨?_, h3, h4⟩
      rw [h1, h2]; unfold wrap64; omega
    obtain ⟨q1, q2, q3⟩ := hpl
    have a5 := hL3.nodes.c5 (u + 1) (by omega)
    rw [q1] at a5
    have HP := Lib.hid hP; clear hP
    have Hp := Lib.hid hp1; clear hp1 hp2 hp3 q1
    have d1 := hL3.hd.cell 1
    simp only [List.getElem?_cons_zero, List.getElem?_cons_succ] at d1
    have hu2 : ((u + 1 : Nat) : Int) < ((n + 1 : Nat) : Int) := by omega
    go_wp2
    go_ret
    exact ⟨_, rfl, .inr ⟨v, u, p, rfl, rfl, hv, hu, Hp.out, rfl⟩, HP.out.lg hL3 HE.out HK.out, hF2.then hF3⟩

end Go.Proofs.Ytoppjjgecgbbkaa
