/- lct: Min. -/
import Derived.Test.YtoppjjgecgbbkaaLctAsk
namespace Go.Proofs.Ytoppjjgecgbbkaa
open Go.RowKit
set_option maxRecDepth 10000
set_option maxHeartbeats 800000

/-- The first vertex of a list: by its key, then its number. -/
def FirstOf (key : Nat → Int) (p : List Nat) (m : Nat) : Prop := m ∈ p ∧ ∀ x ∈ p, x ≠ m → key m < key x ∨ (key m = key x ∧ m < x)

theorem min_w {w : World} {pf g n : Nat} {E : Nat → Nat → Prop} {key : Nat → Int} {ed : Int} (h : LG w pf g n E key ed) (a b : Int) : Calls Try.prog 28 #[.pointer (some ⟨pf, 0, none⟩), .int .i64 a, .int .i64 b] w fun e w' => ((¬ ConnI n E a b ∧ e = .returned (.tuple #[.int .i64 0, .bool false])) ∨ ∃ (v u : Nat) (p : List Nat) (m : Nat), a = v ∧ b = u ∧ v < n ∧ u < n ∧ IsPath E v u p ∧ (∀ x ∈ p, x < n) ∧ FirstOf key p m ∧ e = .returned (.tuple #[.int .i64 m, .bool true])) ∧ LG w' pf g n E key ed ∧ Fr [g] w w' := by
  go_enter Try.func28, Try.ntmps28
  go_wp2_with fail
  refine (connected_w h a b).mono ?_
  rintro _ w2 ⟨r, rfl, hr, h2, hF2⟩
  have HR := Lib.hid hr; clear hr
  cases r with
  | false =>
    have H2 := Lib.hid h2; clear h2 h
    go_wp2
    go_ret2
    exact ⟨.inl ⟨fun e => (by have := HR.out.2 e; cases this), rfl⟩, H2.out, hF2⟩
  | true =>
    obtain ⟨va, vb, hc⟩ := HR.out.1 rfl
    obtain ⟨v, rfl, hv⟩ := inV_nat va
    obtain ⟨u, rfl, hu⟩ := inV_nat vb
    clear va vb HR h
    obtain ⟨cap, σ, F, par, d, rt, hL, hF, hE, hk⟩ := h2
    have hrt := (conn_rt hF.rtd hE).1 hc
    have HF := Lib.hid hF; clear hF
    have HE := Lib.hid hE; clear hE
    have HK := Lib.hid hk; clear hk
    have hN := hL.le
    go_wp2_with fail
    refine (path_v hL HF.out v u hv hu).mono ?_
    rintro _ w3 ⟨rfl, τ, l, R, par', d', rt', hL3, hP, hF3⟩
    obtain ⟨p, hp1, hp2, hp3⟩ := hP.at HE.out hrt
    have hbest : ∃ m, (τ (u + 1)).first = m + 1 ∧ m < n ∧ FirstOf key p m := by
      have h1 := (hP.lf.rep _ (List.mem_cons_self)).2.2.2.2.2
      have hmem : ∀ x, x ∈ (BT.node false l (u + 1) .nil).nodes ↔ x ∈ p.map (· + 1) := by
        intro x; rw [← seq_mem, hp2]; simp [BT.seq]
      have hkey : ∀ x, x < n → (τ (x + 1)).key = key x := fun x hx => by rw [hP.key]; exact HK.out x hx
      obtain ⟨m, hm, e⟩ := List.mem_map.1 ((hmem _).1 h1.1)
      refine ⟨m, e.symm, hp3 m hm, hm, fun x hx hne => ?_⟩
      have := h1.2 (x + 1) ((hmem _).2 (List.mem_map.2 ⟨x, hx, rfl⟩)) (by rw [← e]; omega)
      rw [← e] at this
      unfold beforeB at this
      rw [hkey m (hp3 m hm), hkey x (hp3 x hx)] at this
      simp only [Bool.or_eq_true, Bool.and_eq_true, decide_eq_true_eq] at this
      omega
    obtain ⟨m, q1, q2, q3⟩ := hbest
    have a6 := hL3.nodes.c6 (u + 1) (by omega)
    rw [q1] at a6
    have HP := Lib.hid hP; clear hP
    have Hp := Lib.hid (And.intro hp1 (And.intro hp3 q3)); clear hp1 hp2 hp3 q1 q3
    have d1 := hL3.hd.cell 1
    simp only [List.getElem?_cons_zero, List.getElem?_cons_succ] at d1
    have hu2 : ((u + 1 : Nat) : Int) < ((n + 1 : Nat) : Int) := by omega
    have hw1 : ((m + 1 : Nat) : Int) - 1 = m := by omega
    go_wp2
    go_ret2
    exact ⟨.inr ⟨v, u, p, m, rfl, rfl, hv, hu, Hp.out.1, Hp.out.2.1, Hp.out.2.2, rfl⟩, HP.out.lg hL3 HE.out HK.out, hF2.then hF3⟩

end Go.Proofs.Ytoppjjgecgbbkaa
