/- lct: Path. -/
import Derived.Test.YtoppjjgecgbbkaaLctVisit
namespace Go.Proofs.Ytoppjjgecgbbkaa
open Go.RowKit Classical
set_option maxRecDepth 10000
set_option maxHeartbeats 800000

noncomputable def pathL (n : Nat) (E : Nat → Nat → Prop) (a b : Int) : List Nat := if ConnI n E a b then thePath E a.toNat b.toNat else []
def encR (p : List Nat) : List Value := p.map encI

def zeroInts (m : Nat) : Array Value := madeCells (Value.int .i64 0).cells m
theorem run_make0 (n : Nat) (w : World) (hn : n ≤ 1048576) : (Instr.makeSlice 41 (.int .i64 0) (.int .i64 n)).run Try.prog w = .ok (.slice (some ⟨w.heap.size, 0, none⟩) 0 n) (w.alloc (.cells (zeroInts n) 3)) := by
  obtain ⟨i0, hi, hz0, hz1, hz2⟩ := info_parts Try.info3
  have h := run_make (P := Try.prog) w 41 3 i0 (.int .i64 0) Try.underlying41 hi hz0 .i64 .i64 0 n (by omega) (by omega) (by rw [hz2]; omega) (by omega)
  rw [hz1] at h
  simp only [Int.toNat_natCast, Nat.mul_one] at h
  exact h

theorem visit_v {w : World} {pf g N cap : Nat} {σ : Tbl} {ed : Int} (h : LctAt w pf g N cap σ ed) (hR : InR N σ) {t₀ : BT} {u n₀ Bl : Nat} {v₀ : Value} (hrep : Rep σ t₀ u) (hnd : t₀.nodes.Nodup) (hlt : ∀ x ∈ t₀.nodes, x < N)
    (hH : Holds w n₀ Bl v₀ []) (hp : pf < n₀) (hg : g < n₀) (hB : n₀ ≤ Bl) (hnw : n₀ ≤ w.heap.size) (j : Int) (hj : j = (t₀.root : Int)) :
    Calls Try.prog 39 #[.pointer (some ⟨pf, 0, none⟩), .int .i64 j, .func (.func 40) #[] #[.pointer (some ⟨Bl, 0, none⟩)]] w fun e w' => e = .returned (.tuple #[]) ∧
      ∃ τ t' v, LctAt w' pf g N cap τ ed ∧ Rep τ t' u ∧ t'.seq = t₀.seq ∧ t'.nodes.Perm t₀.nodes ∧ Rotated σ τ t₀.nodes ∧ Holds w' n₀ Bl v (t₀.seq.map encP) ∧ Bx n₀ g w w' := by
  subst hj; exact visit_w h hR hrep hnd hlt hH hp hg hB hnw

theorem pathf_w {w : World} {pf g n : Nat} {E : Nat → Nat → Prop} {key : Nat → Int} {ed : Int} (h : LG w pf g n E key ed) (a b : Int) :
    Calls Try.prog 22 #[.pointer (some ⟨pf, 0, none⟩), .int .i64 a, .int .i64 b] w fun e w' => ∃ v, e = .returned v ∧ w'.ownsRow 0 3 1 v (pathL n E a b).length (encR (pathL n E a b)) ∧ (∀ q, v.ownBlock = some q → w.heap.size ≤ q) ∧ LG w' pf g n E key ed ∧ Fr [g] w w' := by
  go_enter Try.func22, Try.ntmps22
  go_wp2_with fail
  refine (connected_w h a b).mono ?_
  rintro _ w2 ⟨r, rfl, hr, h2, hF2⟩
  have HR := Lib.hid hr; clear hr
  cases r with
  | false =>
    have H2 := Lib.hid h2; clear h2 h
    have hpl : pathL n E a b = [] := by unfold pathL; rw [if_neg (fun e => by have := HR.out.2 e; cases this)]
    have Hpl := Lib.hid hpl; clear hpl
    go_wp2
    go_ret
    refine ⟨_, rfl, ?_, fun q e => (by cases e), H2.out, hF2⟩
    rw [Hpl.out]; exact World.ownsRow_nil _ _ _ _
  | true =>
    have hC := HR.out.1 rfl
    have hpl : pathL n E a b = thePath E a.toNat b.toNat := by unfold pathL; rw [if_pos hC]
    obtain ⟨va, vb, hc⟩ := hC
    obtain ⟨v, rfl, hv⟩ := inV_nat va
    obtain ⟨u, rfl, hu⟩ := inV_nat vb
    clear va vb HR h
    simp only [Int.toNat_natCast] at hpl hc
    have hfrs := h2.frs
    obtain ⟨cap, σ, F, par, d, rt, hL, hF, hE, hk⟩ := h2
    have hrt := (conn_rt hF.rtd hE).1 hc
    have HF := Lib.hid hF; clear hF
    have HE := Lib.hid hE; clear hE
    have HK := Lib.hid hk; clear hk
    have Hfs := Lib.hid hfrs; clear hfrs
    have Hpl := Lib.hid hpl; clear hpl
    have hN := hL.le
    go_wp2_with fail
    refine (path_v hL HF.out v u hv hu).mono ?_
    rintro _ w3 ⟨rfl, τ, l, R, par', d', rt', hL3, hP, hF3⟩
    obtain ⟨p, hp1, hp2, hp3⟩ := hP.at HE.out hrt
    have hpl : (τ (u + 1)).size = (p.length : Int) ∧ p.length ≤ n ∧ 0 < p.length := by
      have h1 := (hP.lf.rep _ (List.mem_cons_self)).2.2.2.1
      have h2 : (BT.node false l (u + 1) .nil).nodes.length = p.length := by
        rw [← (BT.seq_perm _).length_eq]
        have := congrArg List.length hp2
        simpa [BT.seq] using this.symm
      have h3 := nodup_le hp1.nd hp3
      have h4 : 0 < p.length := List.length_pos_iff.2 hp1.ne
      refine ⟨?_, h3, h4⟩
      rw [h1, h2]; unfold wrap64; omega
    obtain ⟨q1, q2, q3⟩ := hpl
    have a5 := hL3.nodes.c5 (u + 1) (by omega)
    rw [q1] at a5
    have hps : thePath E v u = p := thePath_eq Hfs.out hp1
    rw [hps] at Hpl
    have hseq : (BT.node false l (u + 1) .nil).seq = p.map (· + 1) := by rw [hp2]; simp [BT.seq]
    have Hseq := Lib.hid hseq; clear hseq
    have HP := Lib.hid hP; clear hP
    clear hp1 hp2 hp3 q1 hps hc hrt
    have d1 := hL3.hd.cell 1
    simp only [List.getElem?_cons_zero, List.getElem?_cons_succ] at d1
    have hu2 : ((u + 1 : Nat) : Int) < ((n + 1 : Nat) : Int) := by omega
    have hmk := fun W => run_make0 p.length W (by omega)
    obtain ⟨hpf3, hg3⟩ := hL3.lts
    go_wp2_with fail
    obtain ⟨W5, hW5⟩ : ∃ W5, (w3.alloc (.cells (zeroInts p.length) 3)).alloc (.cells #[.slice (some ⟨w3.heap.size, 0, none⟩) 0 p.length] 41) = W5 := ⟨_, rfl⟩
    have hH : Holds W5 w3.heap.size (w3.heap.size + 1) (.slice (some ⟨w3.heap.size, 0, none⟩) 0 p.length) [] := by
      subst hW5
      refine ⟨?_, ?_, ?_⟩
      · have := Blk.new (w3.alloc (.cells (zeroInts p.length) 3)) [.slice (some ⟨w3.heap.size, 0, none⟩) 0 p.length] 41
        rw [World.size_alloc] at this
        exact this
      · refine ⟨rfl, .inr ⟨w3.heap.size, p.length, zeroInts p.length, rfl, Nat.zero_le _, ?_, Nat.zero_le _, by unfold maxLen; omega, by simp [zeroInts, size_madeCells], by simp⟩⟩
        exact (Below.heap_alloc _ _ _ (by simp)).trans (World.alloc_heap_new w3 _)
      · intro q hq
        simp only [Value.ownBlock, Option.some.injEq] at hq
        omega
    have hB5 : Below w3.heap.size w3 W5 := by
      subst hW5
      exact ((Below.refl _ w3).alloc (Nat.le_refl _) _).alloc (by simp) _
    have hL5 : LctAt W5 pf g (n + 1) cap τ ed := hL3.below hB5 hpf3 hg3
    have hV := visit_v hL5 HP.out.lf.inR (t₀ := .node false l (u + 1) .nil) (u := 0) (HP.out.lf.rep _ (List.mem_cons_self)) (by
      have := HP.out.lf.nd; rw [fnodes_cons, List.nodup_append] at this; exact this.1) (fun x hx => (HP.out.lf.lt (List.mem_cons_self) hx).2) hH hpf3 hg3 (by omega) hB5.size ((u : Int) + 1) (by simp [BT.root])
    have HV := Lib.hid hV; clear hV hH hL5
    rw [hW5]
    refine HV.out.mono ?_
    rintro _ w6 ⟨rfl, τ6, t6, v6, hL6, r1, r2, r3, r4, hH6, hB6⟩
    have hbc : w6.cell? ⟨w3.heap.size + 1, 0, none⟩ = some v6 := hH6.box.cell 0
    have hlf6 := HP.out.lf.splay r1 r2 r3 r4
    have HL := Lib.hid (show LG w6 pf g n E key ed from ⟨cap, τ6, _, par', d', rt', hL6, hlf6, fun x y => (HE.out x y).trans (HP.out.adj _ _).symm, fun x hx => by rw [(r4.lk _).2, HP.out.key]; exact HK.out x hx⟩)
    have hrow := hH6.row
    have hown := hH6.own
    rw [Hseq.out] at hrow
    have e1 : (List.map (· + 1) p).map encP = encR p := by
      unfold encR
      rw [List.map_map]
      refine List.map_congr_left (fun x _ => ?_)
      show encP (x + 1) = encI x
      unfold encP encI
      congr 1; omega
    rw [e1] at hrow
    have e2 : (encR p).length = p.length := by unfold encR; simp
    rw [e2] at hrow
    have HRow := Lib.hid hrow
    obtain ⟨a9, c9, rfl⟩ := ownsRow_slice hrow
    clear hrow hH6 hlf6 r1 r2 r3 r4 hL6 e1 e2 hW5
    go_wp2
    go_ret
    have hs3 := (hF2.then hF3).size
    refine ⟨_, rfl, ?_, fun q hq => Nat.le_trans hs3 (hown q hq).1, HL.out, ?_⟩
    · rw [Hpl.out]; exact HRow.out
    · have : Fr [g] w3 w6 := ((Bx.of_below hB5).trans hB6).fr
      exact (hF2.then hF3).then this

end Go.Proofs.Ytoppjjgecgbbkaa
