/- lct: Min. -/
import Derived.Deep.LoopGhost
import Derived.Test.YtgmnemndjjmgkaaGreatB11
import Derived.Test.YtgmnemndjjmgkaaGreatB10
set_option linter.unusedSimpArgs false
set_option linter.unusedVariables false
/- lct: splay. -/
namespace Go.Proofs.YtgmnemndjjmgkaaGreat
open Go.RowKit Go.Shelf
set_option maxRecDepth 10000
set_option maxHeartbeats 800000
attribute [local go_sem] Oper.semAt_some

theorem LctAt.below {w w' : World} {pf g N cap n : Nat} {σ : Tbl} {ed : Int} (h : LctAt w pf g N cap σ ed) (hb : Below n w w') (hp : pf < n) (hg : g < n) : LctAt w' pf g N cap σ ed :=
  ⟨h.hd.of_same (hb.block pf hp), h.nodes.same (hb.block g hg), h.ne, h.le, h.cap⟩
theorem LctAt.lts {w : World} {pf g N cap : Nat} {σ : Tbl} {ed : Int} (h : LctAt w pf g N cap σ ed) : pf < w.heap.size ∧ g < w.heap.size := ⟨h.hd.lt, h.nodes.lt⟩

theorem cnodes_p {a : Fm} : ∀ {c : List Fm}, a ∈ c → a.p ∈ cnodes c
  | b :: c, h => by
    rcases List.mem_cons.1 h with rfl | h
    · simp [cnodes]
    · simp only [cnodes, List.cons_append, List.mem_cons, List.mem_append]; exact .inr (.inr (cnodes_p h))
theorem cnodes_len : ∀ c : List Fm, c.length ≤ (cnodes c).length
  | [] => Nat.le_refl _
  | a :: c => by have := cnodes_len c; simp [cnodes]; omega
/-- Different numbers below a bound are no more than the bound. -/
theorem nodup_le {l : List Nat} {N : Nat} (h : l.Nodup) (hl : ∀ x ∈ l, x < N) : l.length ≤ N := by
  have h1 : l ⊆ List.range N := fun x hx => List.mem_range.2 (hl x hx)
  have := h.length_le_of_subset h1
  simpa using this
def slLen : Value → Nat
  | .slice _ n _ => n
  | _ => 0
theorem Fr.of_grown {w w' : World} {b : Nat} {row : Option Nat} {o : Obj} (hg : (w.alloc o).grownBy w' row) (hr : ∀ k, row = some k → b ≤ k) (hb : b ≤ w.heap.size) : Below b w w' :=
  ((Below.refl b w).alloc hb o).grown hg (by simp; omega) hr

theorem Tryz.linfo3 : (Tryz.prog.info? 3).map (fun i => (i.zero, i.size, i.bytes)) = some (some (.int .i64 0), 1, 8) := by kernel_rfl
theorem LctAt.grown {w w' : World} {pf g N cap : Nat} {σ : Tbl} {ed : Int} {row : Option Nat} (h : LctAt w pf g N cap σ ed) (hg : w.grownBy w' row) (hr : ∀ k, row = some k → k ≠ pf ∧ k ≠ g) : LctAt w' pf g N cap σ ed :=
  ⟨h.hd.of_same (hg.block pf h.hd.lt (fun e => (hr _ e.symm).1 rfl)), h.nodes.same (hg.block g h.nodes.lt (fun e => (hr _ e.symm).2 rfl)), h.ne, h.le, h.cap⟩
theorem InR.pushAll {N : Nat} : ∀ {ps : List Nat} {σ : Tbl}, InR N σ → (∀ x ∈ ps, x < N) → InR N (pushAll σ ps)
  | [], _, h, _ => h
  | p :: ps, σ, h, hp => InR.pushAll (ps := ps) (h.push p (hp p (by simp))) (fun x hx => hp x (by simp [hx]))
theorem pushAll_snoc (σ : Tbl) (ps : List Nat) (x : Nat) : pushAll σ (ps ++ [x]) = push (pushAll σ ps) x := by simp [pushAll]
theorem ownsRow_cells {w : World} {e : TypeId} {g n cap : Nat} {xs : List Value} (h : w.ownsRow 0 e 1 (.slice (some ⟨g, 0, none⟩) n cap) n xs) (hn : 0 < n) : n ≤ cap ∧ g < w.heap.size ∧ ∀ i, i < n → w.cell? ⟨g, i, none⟩ = xs[i]? := by
  obtain ⟨g', cap', e1, h1, h2, _⟩ := ownsRow_at h hn
  simp only [Value.slice.injEq, Option.some.injEq, Addr.mk.injEq, and_true, true_and] at e1
  obtain ⟨rfl, rfl⟩ := e1
  refine ⟨h1, h2, fun i hi => ?_⟩
  obtain ⟨g', cap', e1, _, _, h3, _⟩ := ownsRow_at h hi
  simp only [Value.slice.injEq, Option.some.injEq, Addr.mk.injEq, and_true, true_and] at e1
  obtain ⟨rfl, rfl⟩ := e1
  exact h3
theorem bks_map (N m : Nat) (P : Nat → Nat) (hP : ∀ i, P i < N) (k : Nat) : (bks N m P hP k).map (fun x => x.1.2) = (List.range k).map (fun k => P (m - 1 - k)) := by simp [bks, bk, Function.comp_def]
theorem range_rev (P : List Nat) : (List.range P.length).map (fun k => P.getD (P.length - 1 - k) 0) = P.reverse := by
  apply List.ext_getElem?
  intro j
  by_cases h : j < P.length
  · rw [List.getElem?_map, List.getElem?_range h, List.getElem?_reverse h]
    simp only [Option.map_some, List.getD_eq_getElem?_getD]
    rw [List.getElem?_eq_getElem (show P.length - 1 - j < P.length by omega)]
    rfl
  · rw [List.getElem?_eq_none (by simp; omega), List.getElem?_eq_none (by simp; omega)]

def encI (x : Nat) : Value := .int .i64 x

theorem splay_w {w : World} {pf g N cap : Nat} {σ : Tbl} {ed : Int} (h : LctAt w pf g N cap σ ed) (i : Nat) (hR : InR N σ) (c : List Fm) (f : Bool) (l r : BT) (u : Nat)
    (hrep : Rep σ (plug c (.node f l i r)) u) (hnd : (plug c (.node f l i r)).nodes.Nodup) (hO : Out σ u (plug c (.node f l i r)).nodes) (hlt : ∀ x ∈ (plug c (.node f l i r)).nodes, x < N) :
    Calls Tryz.prog 173 #[.pointer (some ⟨pf, 0, none⟩), .int .i64 i] w fun e w' => e = .returned (.tuple #[]) ∧
      ∃ σ' l' r', LctAt w' pf g N cap σ' ed ∧ Rep σ' (.node false l' i r') u ∧ (BT.node false l' i r').seq = (plug c (.node f l i r)).seq ∧ (BT.node false l' i r').nodes.Perm (plug c (.node f l i r)).nodes ∧ Rotated σ σ' (plug c (.node f l i r)).nodes ∧ InR N σ' ∧ Fr [g] w w' := by
  obtain ⟨hpf, hg⟩ := h.lts
  have hN := h.le
  have HR := Lib.hid hR; clear hR
  have hi0 : i ≠ 0 := (rep_plug.1 hrep).1.1.1
  have hcl := climb hrep hi0 hnd hO
  have hPm : ∀ x ∈ i :: c.map Fm.p, x ∈ (plug c (.node f l i r)).nodes := by
    intro x hx
    refine (plug_nodes c _).mem_iff.2 ?_
    rcases List.mem_cons.1 hx with rfl | hx
    · simp [BT.nodes]
    · rw [List.mem_append]; right
      obtain ⟨a, ha, rfl⟩ := List.mem_map.1 hx
      exact cnodes_p ha
  have hPN : ∀ x ∈ i :: c.map Fm.p, x < N := fun x hx => hlt x (hPm x hx)
  have hPl : (i :: c.map Fm.p).length = c.length + 1 := by simp
  have hway : Way (plug c (.node f l i r)) ((c.map Fm.p).reverse ++ [i]) := way_plug c ⟨rfl, .inl rfl⟩
  have hlen : c.length + 1 ≤ N := by
    have h1 := nodup_le hnd hlt
    have h2 := (plug_nodes c (.node f l i r)).length_eq
    have h3 := cnodes_len c
    simp only [List.length_append, BT.nodes, List.length_cons] at h2
    omega
  generalize hPP : i :: c.map Fm.p = P at *
  have hP0 : P[0]? = some i := by rw [← hPP]; rfl
  have HPP := Lib.hid hPP; clear hPP
  have HC := Lib.hid hcl; clear hcl
  have HW := Lib.hid hway; clear hway
  have HRep := Lib.hid (And.intro hrep (And.intro hnd hO)); clear hrep hnd hO
  have HPN := Lib.hid hPN; clear hPN
  have HPl := Lib.hid hPl; clear hPl
  refine (callsIn_wide (n := 9)).1 ?_
  refine callsIn_of_wp_marks Tryz.func173 rfl trivial ?_ rfl
  simp only [Tryz.ntmps173, List.size_toArray, List.length_cons, List.length_nil, Nat.reduceAdd, Nat.reduceSub, Array.replicate_succ, Array.replicate_zero, List.push_toArray, List.append_toArray, List.nil_append, List.cons_append]
  refine wpIn_wide.2 ?_
  go_wp2
  go_step3
  go_wp2
  refine wp_label ?_
  go_wp2
  have hL0 : LctAt (w.alloc (.cells #[.pointer (some ⟨pf, 0, none⟩)] 119)) pf g N cap σ ed := h.below ((Below.refl w.heap.size w).alloc (Nat.le_refl _) _) hpf hg
  have hB0 : Below w.heap.size w (w.alloc (.cells #[.pointer (some ⟨pf, 0, none⟩)] 119)) := (Below.refl w.heap.size w).alloc (Nat.le_refl _) _
  have hbox : (w.alloc (.cells #[.pointer (some ⟨pf, 0, none⟩)] 119)).cell? ⟨w.heap.size, 0, none⟩ = some (.pointer (some ⟨pf, 0, none⟩)) := cell_new1 w _ _ _ rfl
  have hsz : (w.alloc (.cells #[.pointer (some ⟨pf, 0, none⟩)] 119)).heap.size = w.heap.size + 1 := by simp
  generalize w.alloc (.cells #[.pointer (some ⟨pf, 0, none⟩)] 119) = W0 at *
  clear h
  go_loopw [4, 5] (fun a b wr => ∃ k x : Nat, k ≤ c.length ∧ Hid (P[k]? = some x) ∧ b = .int .i64 x ∧ wr.ownsRow 0 3 1 a k ((P.take k).map encI) ∧ Below (w.heap.size + 1) W0 wr ∧ ∀ q, a.ownBlock = some q → w.heap.size + 1 ≤ q) (fun a _ _ => c.length + 1 - slLen a)
  case atStart => exact ⟨0, i, Nat.zero_le _, Lib.hid hP0, rfl, World.ownsRow_nil _ _ _ _, Below.refl _ _, fun q e => by cases e⟩
  case round =>
    obtain ⟨k, x, hk, hx, rfl, hown, hB, hq⟩ := hrel
    obtain ⟨a9, c9, rfl⟩ := ownsRow_slice hown
    have hL : LctAt wr pf g N cap σ ed := hL0.below hB (by omega) (by omega)
    have hxN : x < N := HPN.out x (List.mem_of_getElem? hx.out)
    have hS := Lib.hid hB.size
    have hnx : ∀ b : Bool, (sideOf σ x).2 = b → (b = true → ∃ y, P[k + 1]? = some y ∧ (σ x).up = y ∧ k + 1 ≤ c.length) ∧ (b = false → k = c.length) := by
      intro b hb
      have hkl := HPl.out
      by_cases e : k = c.length
      · refine ⟨fun h => ?_, fun _ => e⟩
        have := HC.out.2 x (by show (i :: c.map Fm.p)[c.length]? = _; rw [HPP.out, ← e]; exact hx.out)
        rw [hb, h] at this; cases this
      · have hy : P[k + 1]? = some (P[k + 1]'(by omega)) := List.getElem?_eq_getElem _
        have := HC.out.1 k x (P[k + 1]'(by omega)) (by show (i :: c.map Fm.p)[k]? = _; rw [HPP.out]; exact hx.out) (by show (i :: c.map Fm.p)[k + 1]? = _; rw [HPP.out]; exact hy)
        refine ⟨fun _ => ⟨_, hy, this.2, by omega⟩, fun h => ?_⟩
        rw [hb, h] at this; cases this.1
    have Hnx := Lib.hid hnx; clear hnx
    go_wp2_with (at_builtin; refine wpList_app1 rfl _ _ 94 rfl 3 (.int .i64 0) 8 Tryz.underlying94 Tryz.linfo3 rfl (.slice a9 k c9) k _ rfl (hown.alloc _) wr.heap.size (.int .i64 x) rfl (cell_new1 _ _ _ _ rfl) rfl (by omega) (by decide) ?_; intro g' cap' w3 hown3 hgrow3 hg3; have hB3 : Below (w.heap.size + 1) W0 w3 := hB.trans (Fr.of_grown hgrow3 hq (by have := hB.size; omega)); have hb3 := (hB3.cell (p := ⟨w.heap.size, 0, none⟩) (by simp)).trans hbox)
    have hL3 : LctAt w3 pf g N cap σ ed := hL0.below hB3 (by omega) (by omega)
    have hq3 : w.heap.size + 1 ≤ g' := by
      rcases hg3 with e | e
      · exact hq _ e
      · simp only [World.size_alloc] at e; have := hS.out; omega
    rw [show (P.take k).map encI ++ [Value.int .i64 x] = (P.take (k + 1)).map encI by rw [List.take_add_one, hx.out]; simp [encI]] at hown3
    clear hown hgrow3 hg3 hL hB hS hq
    refine (side_w hL3 x hxN HR.out).mono ?_
    rintro _ w3 ⟨rfl, rfl⟩
    generalize hsd : sideOf σ x = sx at *
    obtain ⟨s0, b⟩ := sx
    have Hn := Lib.hid (Hnx.out b rfl); clear Hnx
    dsimp only
    cases b with
    | false =>
      have hkc := Hn.out.2 rfl
      subst hkc
      clear Hn
      rw [List.take_of_length_le (by rw [HPl.out]; exact Nat.le_refl _)] at hown3
      obtain ⟨hcap, hglt, hcells⟩ := ownsRow_cells hown3 (by omega)
      clear hown3
      go_wp2
      have hB4 : Below (w.heap.size + 1) W0 (w3.alloc (.cells #[.slice (some ⟨g', 0, none⟩) (c.length + 1) cap'] 94)) := hB3.alloc (by have := hB3.size; omega) _
      have hc4 := Blk.new w3 [.slice (some ⟨g', 0, none⟩) (c.length + 1) cap'] 94
      have hr4 : ∀ j, j < c.length + 1 → (w3.alloc (.cells #[.slice (some ⟨g', 0, none⟩) (c.length + 1) cap'] 94)).cell? ⟨g', j, none⟩ = some (.int .i64 (P.getD j 0)) := by
        intro j hj
        rw [World.cell?_of_block (Below.heap_alloc w3 _ g' hglt), hcells j hj]
        simp only [List.getElem?_map, List.getD_eq_getElem?_getD]
        rw [List.getElem?_eq_getElem (show j < P.length by rw [HPl.out]; omega)]
        rfl
      have hs4 : (w3.alloc (.cells #[.slice (some ⟨g', 0, none⟩) (c.length + 1) cap'] 94)).heap.size = w3.heap.size + 1 := by simp
      generalize w3.alloc (.cells #[.slice (some ⟨g', 0, none⟩) (c.length + 1) cap'] 94) = W1 at *
      have hs3 := hB3.size
      have hL4 : LctAt W1 pf g N cap σ ed := hL0.below hB4 (by omega) (by omega)
      have hb4 := (hB4.cell (p := ⟨w.heap.size, 0, none⟩) (by simp)).trans hbox
      have hPd : ∀ j, P.getD j 0 < N := by
        intro j
        rw [List.getD_eq_getElem?_getD]
        cases e : P[j]? with
        | none => simp; omega
        | some y => exact HPN.out y (List.mem_of_getElem? e)
      clear hcells hb3 hL3 hx
      refine (wpIn_wide (n := 9)).1 ?_
      refine' wpIn_rangeFunc_ownF (n := 9) rfl (by decide) (α := Pl N) (gf := 222) (lb := #[.pointer (some ⟨w3.heap.size, 0, none⟩)]) rfl trivial (enters_of Tryz.func222 (by kernel_rfl) rfl)
        (encs := fun x => #[.int .i64 x.1.1, .int .i64 x.1.2]) (Kp := Bx W1.heap.size g) (S := fun ys => ys = bks N (c.length + 1) (fun j => P.getD j 0) hPd (c.length + 1)) (Sp := fun _ => True) (N := c.length + 1) (w0 := W1)
        (fun l J Jx W hW _ _ hY h0 => back1_in 8 l w3.heap.size g' (c.length + 1) cap' N g W1.heap.size (fun j => P.getD j 0) hPd hN (by omega) (by decide) (by omega) (by omega) (by omega) (by omega) J Jx hY W ((hW.cell (p := ⟨w3.heap.size, 0, none⟩) (by show w3.heap.size < _; omega)).trans (hc4.cell 0)) hcap (fun j hj => (hW.cell (p := ⟨g', j, none⟩) (by show g' < _; omega)).trans (hr4 j hj)) h0)
        (fun h k => h.trans k) (bxK_b (Nat.le_refl _)) (Below.refl _ _) (fun _ => rfl)
        (fun pre W => (LctAt W pf g N cap (pushAll σ (pre.map (fun x => x.1.2))) ed ∧ W.cell? ⟨w.heap.size, 0, none⟩ = some (.pointer (some ⟨pf, 0, none⟩))) ∧ Bx W1.heap.size g W1 W)
        (fun _ _ _ => False)
        (OwnFrom.and (fun s A B row hs hg hr => ⟨hs.1.grown hg (fun k e => by have := (hr k e).1; omega), (World.cell?_of_block (hg.block w.heap.size (cell_lt (a := ⟨w.heap.size, 0, none⟩) hs.2) (fun e => by have := (hr w.heap.size e.symm).1; omega))).trans hs.2⟩) (ownFrom_bx (Nat.le_refl _) (Nat.le_refl _)))
        (fun c s A B row hs hg hr => hs) ⟨⟨hL4, hb4⟩, Bx.refl _ _ _⟩ _ ?assign ?body ?done ?stop
      case assign =>
        intro l x W K hK
        gi_wp2
        exact hK
      case body =>
        rintro l pre x W ⟨⟨hLp, hbp⟩, hBp⟩ _
        obtain ⟨⟨x1, x2⟩, hx2⟩ := x
        dsimp only at hx2
        gi_wp2_with (refine ⟨trivial, ?_⟩; gi_at_call 201; refine (CallsIn.inRound l (callsIn_wide.2 (push_w hLp x2 hx2 (HR.out.pushAll (fun y hy => by obtain ⟨z, _, rfl⟩ := List.mem_map.1 hy; exact z.2))))).mono ?_; rintro e w' ⟨rfl, hLq, hFq⟩)
        obtain ⟨arr, hga, _⟩ := hLp.nodes
        refine ⟨keepsOthers_fr hFq hga, Bx.of_fr hFq hBp.size, ⟨?_, hFq.cell hbp (by show w.heap.size ∉ [g]; simp; omega)⟩, hBp.trans (Bx.of_fr hFq hBp.size)⟩
        rw [List.map_append, List.map_cons, List.map_nil, pushAll_snoc]
        exact hLq
      case stop =>
        rintro D c pre W hD _ hf hK
        exact hf.elim
      case done =>
        rintro D ys W hD rfl ⟨⟨hLd, hbd⟩, hBd⟩ hK
        rw [bks_map, ← HPl.out, range_rev, show P.reverse = (c.map Fm.p).reverse ++ [i] by rw [← HPP.out]; simp] at hLd
        have hsp : ∃ c' l' r', Spin N σ (pushAll σ ((c.map Fm.p).reverse ++ [i])) u i (plug c (.node f l i r)) c' l' r' := by
          obtain ⟨c', l', r', a1, a2, a3, a4, a5⟩ := pushAll_rep (c := []) (t := plug c (.node f l i r)) HRep.out.1 HRep.out.2.1 (fun _ h => by cases h) HW.out
          exact ⟨c', l', r', a1, a2, a3, a4, a5, HR.out.pushAll (fun x hx => HPN.out x (by rw [← HPP.out]; simp at hx; simp; rcases hx with h | h; exact .inr h; exact .inl h))⟩
        obtain ⟨c1, l1, r1, hS1⟩ := hsp
        have HS1 := Lib.hid hS1; clear hS1
        generalize pushAll σ ((c.map Fm.p).reverse ++ [i]) = τ1 at *
        have hBw : Bx w.heap.size g w W := (Bx.of_below (hB0.trans (hB4.mono (by omega)))).trans (hBd.mono (by omega))
        clear hc4 hr4 hL4 hb4 hBd hPd hB4 hB3 hglt
        go_wp2
        go_loopg [] (c1.length + 1) (fun k wr => ∃ τ c1 l1 r1, Hid (c1.length < k ∧ Spin N σ τ u i (plug c (.node f l i r)) c1 l1 r1) ∧ LctAt wr pf g N cap τ ed ∧ Bx w.heap.size g w wr ∧ wr.cell? ⟨w.heap.size, 0, none⟩ = some (.pointer (some ⟨pf, 0, none⟩)) ∧ wr.heap[D]? = some (.deferred (some [])))
        case atStart => exact ⟨τ1, c1, l1, r1, Lib.hid ⟨Nat.lt_succ_self _, HS1.out⟩, hLd, hBw, hbd, hK⟩
        case round =>
          clear hLd hbd hBw hK HS1
          obtain ⟨τ, c2, l2, r2, HS, hLr, hBr, hbr, hKr⟩ := hrel
          have hiN : i < N := hlt i ((plug_nodes c _).mem_iff.2 (by simp [BT.nodes]))
          have hi2 : (i : Int) < N := by omega
          have d1 := hLr.hd.cell 1
          simp only [List.getElem?_cons_zero, List.getElem?_cons_succ] at d1
          have hDg : D ≠ g := by omega
          have hwg : w.heap.size ≠ g := by omega
          cases c2 with
          | nil =>
            have hsd : (sideOf τ i).2 = false := (climb HS.out.2.rep hi0 (HS.out.2.nd HRep.out.2.1) (HS.out.2.out HRep.out.2.2)).2 i rfl
            go_wp2_with fail
            refine (side_w hLr i hiN HS.out.2.inR).mono ?_
            rintro _ wx ⟨rfl, rfl⟩
            rw [hsd]
            go_wp2
            rw [Exit.noGoto_ret]
            refine ⟨by simp, .inl ⟨_, _, rfl, run_takeDeferred hKr, ?_⟩⟩
            refine ⟨.tuple #[], results_none rfl _ _ _, rfl, τ, l2, r2, ?_, HS.out.2.rep, HS.out.2.seq, HS.out.2.perm, HS.out.2.rot, HS.out.2.inR, ?_⟩
            · exact hLr.grown (grownBy_putObj' _ D (.deferred none)) (fun k e => by cases e; omega)
            · exact (hBr.grown (grownBy_putObj' _ D (.deferred none)) hBr.size (fun k e => by cases e; omega)).fr
          | cons a c3 =>
            obtain ⟨hs1, hu1⟩ := side_frame HS.out.2.rep hi0 (HS.out.2.nd HRep.out.2.1)
            change sideOf τ i = _ at hs1
            change (τ i).up = _ at hu1
            have hpN : a.p < N := hu1 ▸ (HS.out.2.inR i hiN).2.2.1
            have hp2 : (a.p : Int) < N := by omega
            have hp0 : a.p ≠ 0 := (rep_plug.1 HS.out.2.rep).2.1.1
            have a2 := hLr.nodes.c2 i hiN
            rw [hu1] at a2
            have S1 := Lib.hid (side_w hLr i hiN HS.out.2.inR)
            rw [hs1] at S1
            have S2 := Lib.hid (side_w hLr a.p hpN HS.out.2.inR)
            clear hs1 hu1
            cases c3 with
            | nil =>
              have hsd : (sideOf τ a.p).2 = false := (climb HS.out.2.rep hi0 (HS.out.2.nd HRep.out.2.1) (HS.out.2.out HRep.out.2.2)).2 a.p rfl
              rw [hsd] at S2
              have HZ := Lib.hid (HS.out.2.zig HRep.out.2.1 HRep.out.2.2 hiN)
              clear hsd
              go_wp2_with fail
              refine S1.out.mono ?_
              rintro _ wx ⟨rfl, rfl⟩
              go_wp2_with fail
              refine S2.out.mono ?_
              rintro _ wx ⟨rfl, rfl⟩
              go_wp2_with fail
              refine (rotate_w hLr i hiN HS.out.2.inR HZ.out.1.1 HZ.out.1.2.1 HZ.out.1.2.2.1 HZ.out.1.2.2.2).mono ?_
              rintro _ wy ⟨rfl, hLy, hFy⟩
              go_wp2
              obtain ⟨hz, l3, r3, hS3⟩ := HZ.out
              go_roundg 1
              case measure => have := HS.out.1; simp at this; omega
              case rel => exact ⟨_, [], l3, r3, Lib.hid ⟨by simp, hS3⟩, hLy, hBr.trans (Bx.of_fr hFy hBr.size), hFy.cell hbr (by simpa using hwg), (hFy.keep D (Array.getElem?_eq_some_iff.1 hKr).1 (by simpa using hDg)).trans hKr⟩
            | cons b c4 =>
              obtain ⟨hs1, _⟩ := side_frame (c := c4) (a := b) (t := a.fill (.node false l2 i r2)) HS.out.2.rep (by rw [fill_root]; exact hp0) (HS.out.2.nd HRep.out.2.1)
              rw [fill_root] at hs1
              rw [hs1] at S2
              clear hs1
              by_cases hab : a.s = b.s
              · have hb : ((sd a.s : Int) == (sd b.s : Int)) = true := by rw [hab]; exact beq_self_eq_true _
                obtain ⟨z1, a', z2⟩ := HS.out.2.zigp hab HRep.out.2.1 HRep.out.2.2 hpN
                obtain ⟨z3, z4⟩ := z2.zig HRep.out.2.1 HRep.out.2.2 hiN
                have HZ1 := Lib.hid z1; clear z1
                have HZ2 := Lib.hid z2; clear z2
                have HZ3 := Lib.hid z3; clear z3
                have HZ4 := Lib.hid z4; clear z4
                clear hab
                go_wp2_with fail
                refine S1.out.mono ?_
                rintro _ wx ⟨rfl, rfl⟩
                go_wp2_with fail
                refine S2.out.mono ?_
                rintro _ wx ⟨rfl, rfl⟩
                go_wp2_with fail
                refine (rotate_w hLr a.p hpN HS.out.2.inR HZ1.out.1 HZ1.out.2.1 HZ1.out.2.2.1 HZ1.out.2.2.2).mono ?_
                rintro _ wy ⟨rfl, hLy, hFy⟩
                have hby := hFy.cell hbr (by simpa using hwg)
                go_wp2_with fail
                refine (rotate_w hLy i hiN HZ2.out.inR HZ3.out.1 HZ3.out.2.1 HZ3.out.2.2.1 HZ3.out.2.2.2).mono ?_
                rintro _ wz ⟨rfl, hLz, hFz⟩
                go_wp2
                obtain ⟨l3, r3, hS3⟩ := HZ4.out
                go_roundg (c4.length + 1)
                case measure => have := HS.out.1; simp at this; omega
                case rel =>
                  have hF2 := hFy.then hFz
                  exact ⟨_, c4, l3, r3, Lib.hid ⟨by simp, hS3⟩, hLz, hBr.trans (Bx.of_fr hF2 hBr.size), hF2.cell hbr (by simpa using hwg), (hF2.keep D (Array.getElem?_eq_some_iff.1 hKr).1 (by simpa using hDg)).trans hKr⟩
              · have hb : ((sd a.s : Int) == (sd b.s : Int)) = false := by
                  cases h1 : a.s <;> cases h2 : b.s <;> simp_all [sd]
                obtain ⟨z1, l5, r5, z2⟩ := HS.out.2.zig HRep.out.2.1 HRep.out.2.2 hiN
                obtain ⟨z3, z4⟩ := z2.zig HRep.out.2.1 HRep.out.2.2 hiN
                have HZ1 := Lib.hid z1; clear z1
                have HZ2 := Lib.hid z2; clear z2
                have HZ3 := Lib.hid z3; clear z3
                have HZ4 := Lib.hid z4; clear z4
                clear hab
                go_wp2_with fail
                refine S1.out.mono ?_
                rintro _ wx ⟨rfl, rfl⟩
                go_wp2_with fail
                refine S2.out.mono ?_
                rintro _ wx ⟨rfl, rfl⟩
                go_wp2_with fail
                refine (rotate_w hLr i hiN HS.out.2.inR HZ1.out.1 HZ1.out.2.1 HZ1.out.2.2.1 HZ1.out.2.2.2).mono ?_
                rintro _ wy ⟨rfl, hLy, hFy⟩
                have hby := hFy.cell hbr (by simpa using hwg)
                go_wp2_with fail
                refine (rotate_w hLy i hiN HZ2.out.inR HZ3.out.1 HZ3.out.2.1 HZ3.out.2.2.1 HZ3.out.2.2.2).mono ?_
                rintro _ wz ⟨rfl, hLz, hFz⟩
                go_wp2
                obtain ⟨l3, r3, hS3⟩ := HZ4.out
                go_roundg (c4.length + 1)
                case measure => have := HS.out.1; simp at this; omega
                case rel =>
                  have hF2 := hFy.then hFz
                  exact ⟨_, c4, l3, r3, Lib.hid ⟨by simp, hS3⟩, hLz, hBr.trans (Bx.of_fr hF2 hBr.size), hF2.cell hbr (by simpa using hwg), (hF2.keep D (Array.getElem?_eq_some_iff.1 hKr).1 (by simpa using hDg)).trans hKr⟩
    | true =>
      obtain ⟨y, hy1, hy2, hy3⟩ := Hn.out.1 rfl
      have a2 := hL3.nodes.c2 x hxN
      rw [hy2] at a2
      have d1 := hL3.hd.cell 1
      simp only [List.getElem?_cons_zero, List.getElem?_cons_succ] at d1
      have hx2 : (x : Int) < N := by omega
      go_wp2
      go_roundw
      case rel => exact ⟨k + 1, y, hy3, Lib.hid hy1, rfl, hown3, hB3, fun q e => by cases e; exact hq3⟩
      case measure => simp [slLen]; omega

end Go.Proofs.YtgmnemndjjmgkaaGreat

/- lct: expose. -/
namespace Go.Proofs.YtgmnemndjjmgkaaGreat
open Go.RowKit
set_option maxRecDepth 10000
set_option maxHeartbeats 800000

theorem splay_f {w : World} {pf g N cap : Nat} {σ : Tbl} {ed : Int} (h : LctAt w pf g N cap σ ed) {par d rt : Nat → Nat} {t : BT} {u : Nat} {R : Fst} (hF : LF N σ ((t, u) :: R) par d rt) (i : Nat) (hi : i ∈ t.nodes) :
    Calls Tryz.prog 173 #[.pointer (some ⟨pf, 0, none⟩), .int .i64 i] w fun e w' => e = .returned (.tuple #[]) ∧
      ∃ σ' l' r', LctAt w' pf g N cap σ' ed ∧ Rep σ' (.node false l' i r') u ∧ (BT.node false l' i r').seq = t.seq ∧ (BT.node false l' i r').nodes.Perm t.nodes ∧ Rotated σ σ' t.nodes ∧ InR N σ' ∧ Fr [g] w w' := by
  obtain ⟨c, f, l, r, rfl⟩ := zip_ex hi
  have hnd := hF.nd
  rw [fnodes_cons, List.nodup_append] at hnd
  exact splay_w h i hF.inR c f l r u (hF.rep (plug c (.node f l i r), u) (by simp)) hnd.1 hF.outs (fun x hx => (hF.lt (p := (plug c (.node f l i r), u)) (by simp) hx).2)

theorem expose_w {w : World} {pf g N cap : Nat} {σ : Tbl} {ed : Int} (h : LctAt w pf g N cap σ ed) {par d rt : Nat → Nat} {F : Fst} (hF : LF N σ F par d rt) (i : Nat) (hi0 : 0 < i) (hi : i < N) :
    Calls Tryz.prog 134 #[.pointer (some ⟨pf, 0, none⟩), .int .i64 i] w fun e w' => ∃ m τ l R, e = .returned (.int .i64 (m : Nat)) ∧ LctAt w' pf g N cap τ ed ∧ Exposed N σ F par d rt i m τ l R ∧ Fr [g] w w' := by
  have hN := h.le
  have HX := Lib.hid (XI.start hF hi hi0)
  clear hF
  go_enter Tryz.func134, Tryz.ntmps134
  go_wp2
  go_loopg [5, 6] (d i + 1) (fun k a b wr => ∃ (τ : Tbl) (B : BT) (j : Nat) (R : Fst), a = .int .i64 B.root ∧ b = .int .i64 j ∧ LctAt wr pf g N cap τ ed ∧ Fr [g] w wr ∧ Hid (XI N σ F par d rt i τ B j R) ∧ (j ≠ 0 → d j < k))
  case atStart => exact ⟨σ, .nil, i, F, rfl, rfl, h, Fr.refl _ _, HX, fun _ => Nat.lt_succ_self _⟩
  case round =>
    clear h HX
    obtain ⟨τ, B, j, R, rfl, rfl, hL, hFr, HX, hk⟩ := hrel
    by_cases hj : j = 0
    · subst hj
      obtain ⟨hiB, _⟩ := HX.out.done (by omega)
      go_wp2_with fail
      refine (splay_f hL HX.out.lf i hiB).mono ?_
      rintro _ w2 ⟨rfl, τ2, l2, r2, hL2, q1, q2, q3, q4, q5, hF2⟩
      have HE := Lib.hid (HX.out.exposed (by omega) q1 q2 q3 q4)
      clear q1 q2 q3 q4 q5
      go_wp2
      go_ret
      exact ⟨B.root, τ2, l2, R, rfl, hL2, HE.out, hFr.then hF2⟩
    · obtain ⟨t, u, R2, hR2, hjt⟩ := HX.out.split hj
      have HR2 := Lib.hid hR2; clear hR2
      have hb0 : ((j : Int) == 0) = false := beq_eq_false_iff_ne.2 (by omega)
      have hjN : j < N := HX.out.lf.up (B, j) (by simp)
      have hj2 : (j : Int) < N := by omega
      have hbN : B.root < N := by
        by_cases e : B.root = 0
        · rw [e]; omega
        · exact (HX.out.lf.lt (p := (B, j)) (by simp) (BT.root_mem e)).2
      have hb2 : (B.root : Int) < N := by omega
      have Hk := Lib.hid hk; clear hk
      have Hj := Lib.hid hj; clear hj
      go_wp2_with fail
      refine (splay_f hL (HX.out.lf2 HR2.out) j hjt).mono ?_
      rintro _ w2 ⟨rfl, τ2, l2, r2, hL2, q1, q2, q3, q4, q5, hF2⟩
      have HE := Lib.hid (HX.out.next Hj.out HR2.out hjt q1 q2 q3 q4)
      have HI := Lib.hid q5
      have hk1 := (q5 j hjN).2.1
      have hk1' : ((τ2 j).k1 : Int) < N := by omega
      clear q1 q2 q3 q4 q5
      have a7 := hL2.nodes.c7 j hjN
      have a1 := hL2.nodes.c1 j hjN
      have a8 := hL2.nodes.c8 (τ2 j).k1 hk1
      have b8 := hL2.nodes.c8 B.root hbN
      have d1 := hL2.hd.cell 1
      simp only [List.getElem?_cons_zero, List.getElem?_cons_succ] at d1
      have hfz := hL2.nodes.frozen
      generalize hbr : B.root = br at *
      have Hbr := Lib.hid hbr; clear hbr
      go_wp2
      refine region_one 28 (fun w' => LctAt w' pf g N cap (xst1 τ2 j br) ed ∧ Fr [g] w2 w') (by kernel_rfl) (by kernel_rfl) (by kernel_rfl) ?_
      iterate 28 (refine gWalk_pre (by decide) (fun K hK => ?_); go_simp; refine hK _ ?_; clear hK K)
      refine gWalk_write rfl undef (fun w' hw' => ?_) ?_
      · obtain ⟨nq, rfl⟩ := hw'
        go_simp
        rw [iw64, iw64]
        exact (hL2.eqv (Eqv.drewN w2 nq)).st7 ((Fr.refl [g] w2).drewN nq) hjN _
      refine gWalk_nil ?_
      rintro w3 ⟨hL3, hF3⟩
      clear a7 a1 a8 b8 d1 hfz
      have hk3 := hL3.nodes.c1 j hjN
      have hfz3 := hL3.nodes.frozen
      obtain ⟨hL4, hF4⟩ := hL3.st1 (Fr.refl [g] w3) hjN br
      have HL4 := Lib.hid (show LctAt (w3.setCell ⟨g, j * 9 + 1, none⟩ (.int .i64 br)) pf g N cap (xst2 τ2 j br) ed from hL4)
      clear hL4
      go_wp2_with fail
      refine (refresh_w HL4.out j hjN HE.out.2.1.2.2.2 HE.out.2.1.2.1 HE.out.2.1.2.2.1).mono ?_
      rintro _ w5 ⟨rfl, hL5, hF5⟩
      change LctAt w5 pf g N cap (xstep τ2 j br) ed at hL5
      have e2 := hL5.nodes.c2 j hjN
      rw [HE.out.2.2.2] at e2
      have d5 := hL5.hd.cell 1
      simp only [List.getElem?_cons_zero, List.getElem?_cons_succ] at d5
      clear hfz3 hk3 HL4
      go_wp2
      go_roundg (if u = 0 then 0 else d u + 1)
      case measure =>
        have := Hk.out Hj.out
        by_cases e : u = 0
        · rw [if_pos e]; omega
        · rw [if_neg e]; have := HE.out.2.2.1 e; omega
      case rel =>
        refine ⟨_, _, u, _, rfl, rfl, hL5, hFr.then (hF2.then (hF3.then (hF4.then hF5))), Lib.hid HE.out.1, fun e => by rw [if_neg e]; exact Nat.lt_succ_self _⟩

end Go.Proofs.YtgmnemndjjmgkaaGreat

/- lct: lead, path, has, check, Connected, Size, Trees, Dist, Min, Meet. -/
namespace Go.Proofs.YtgmnemndjjmgkaaGreat
open Go.RowKit
set_option maxRecDepth 10000
set_option maxHeartbeats 800000

theorem lead_w {w : World} {pf g N cap : Nat} {σ : Tbl} {ed : Int} (h : LctAt w pf g N cap σ ed) {par d rt : Nat → Nat} {F : Fst} (hF : LF N σ F par d rt) (i : Nat) (hi0 : 0 < i) (hi : i < N) :
    Calls Tryz.prog 172 #[.pointer (some ⟨pf, 0, none⟩), .int .i64 i] w fun e w' => e = .returned (.tuple #[]) ∧ ∃ τ l R par' d' rt', LctAt w' pf g N cap τ ed ∧ LF N τ ((.node true l i .nil, 0) :: R) par' d' rt' ∧ (∀ x, (τ x).key = (σ x).key) ∧
      (∀ x y, Adj par' x y ↔ Adj par x y) ∧ (∀ x y, rt' x = rt' y ↔ rt x = rt y) ∧ rt' i = i ∧ Fr [g] w w' := by
  have hN := h.le
  have hi2 : (i : Int) < N := by omega
  go_enter Tryz.func172, Tryz.ntmps172
  go_wp2_with fail
  refine (expose_w h hF i hi0 hi).mono ?_
  rintro _ w2 ⟨m, τ, l, R, rfl, hL2, hE, hF2⟩
  obtain ⟨par', d', rt', q1, q2, q3, q4, q5⟩ := hE.lf.lead
  have HE := Lib.hid hE.key
  have Q := Lib.hid (And.intro q1 (And.intro q2 (And.intro q3 q4)))
  clear q1 q2 q3 q4 q5 hE h hF
  have d1 := hL2.hd.cell 1
  simp only [List.getElem?_cons_zero, List.getElem?_cons_succ] at d1
  have a3 := hL2.nodes.c3 i hi
  have hfz := hL2.nodes.frozen
  obtain ⟨hL3, hF3⟩ := hL2.st3 hF2 hi true
  go_wp2
  go_end0
  refine ⟨rfl, _, l, R, par', d', rt', hL3, Q.out.1, fun x => ?_, Q.out.2.1, Q.out.2.2.1, Q.out.2.2.2, hF3⟩
  rw [← HE.out x]
  by_cases e : x = i
  · subst e; rw [upd_same]
  · rw [upd_other e]

/-- What path makes of the forest. -/
structure Pathed (N : Nat) (σ : Tbl) (par rt : Nat → Nat) (i j : Nat) (τ : Tbl) (l : BT) (R : Fst) (par' d' rt' : Nat → Nat) : Prop where
  lf : LF N τ ((.node false l j .nil, 0) :: R) par' d' rt'
  key : ∀ x, (τ x).key = (σ x).key
  adj : ∀ x y, Adj par' x y ↔ Adj par x y
  rts : ∀ x y, rt' x = rt' y ↔ rt x = rt y
  rti : rt' i = i
  path : rt i = rt j → IsPath (Adj par) i j (l.seq ++ [j])

theorem path_w {w : World} {pf g N cap : Nat} {σ : Tbl} {ed : Int} (h : LctAt w pf g N cap σ ed) {par d rt : Nat → Nat} {F : Fst} (hF : LF N σ F par d rt) (i j : Nat) (hi0 : 0 < i) (hi : i < N) (hj0 : 0 < j) (hj : j < N) :
    Calls Tryz.prog 132 #[.pointer (some ⟨pf, 0, none⟩), .int .i64 i, .int .i64 j] w fun e w' => e = .returned (.tuple #[]) ∧ ∃ τ l R par' d' rt', LctAt w' pf g N cap τ ed ∧ Pathed N σ par rt i j τ l R par' d' rt' ∧ Fr [g] w w' := by
  go_enter Tryz.func132, Tryz.ntmps132
  go_wp2_with fail
  refine (lead_w h hF i hi0 hi).mono ?_
  rintro _ w2 ⟨rfl, τ, l, R, par', d', rt', hL2, hF', hkey, hadj, hrt, hri, hFr2⟩
  have HF' := Lib.hid hF'; clear hF'
  have Q := Lib.hid (And.intro hkey (And.intro hadj (And.intro hrt hri)))
  clear hkey hadj hrt hri h hF
  go_wp2_with fail
  refine (expose_w hL2 HF'.out j hj0 hj).mono ?_
  rintro _ w3 ⟨m, τ3, l3, R3, rfl, hL3, hE, hFr3⟩
  have HE := Lib.hid hE; clear hE
  go_wp2
  go_end0
  obtain ⟨hkey, hadj, hrt, hri⟩ := Q.out
  have hE := HE.out
  refine ⟨rfl, τ3, l3, R3, par', d', rt', hL3, ⟨hE.lf, fun x => (hE.key x).trans (hkey x), hadj, hrt, hri, fun e => ?_⟩, hFr2.then hFr3⟩
  obtain ⟨hn, hz, hc⟩ := hE.lf.top_seq
  have hjm : j ∈ l3.seq ++ [j] := by simp
  have hl : (l3.seq ++ [j]).getLast? = some j := last_snoc _ _
  generalize l3.seq ++ [j] = s at *
  cases s with
  | nil => cases hjm
  | cons y s =>
    have hy : y = i := by
      rw [← ch_rt_head hE.lf.rt0 hE.lf.rt1 hc hz j hjm, (hrt j i).2 e.symm, hri]
    subst hy
    have : IsPath (Adj par') y j (y :: s) := ⟨s, rfl, ch_wk (hz y (by simp)) (fun x hx => hz x (by simp [hx])) hc.2, hn, hl⟩
    exact this.mono (fun x y => (hadj x y).1)

/-- A forest of n vertices with the edges E. -/
def LG (w : World) (pf g n : Nat) (E : Nat → Nat → Prop) (key : Nat → Int) (ed : Int) : Prop :=
  ∃ cap σ F par d rt, LctAt w pf g (n + 1) cap σ ed ∧ LF (n + 1) σ F par d rt ∧ (∀ v u, E v u ↔ Adj par (v + 1) (u + 1)) ∧ ∀ v, v < n → (σ (v + 1)).key = key v

theorem LG.frs {w : World} {pf g n : Nat} {E : Nat → Nat → Prop} {key : Nat → Int} {ed : Int} (h : LG w pf g n E key ed) : Frs E := by
  obtain ⟨cap, σ, F, par, d, rt, _, h2, h3, _⟩ := h
  exact ⟨par, d, rt, h2.rtd, h3⟩
theorem LG.lts {w : World} {pf g n : Nat} {E : Nat → Nat → Prop} {key : Nat → Int} {ed : Int} (h : LG w pf g n E key ed) : pf < w.heap.size ∧ g < w.heap.size ∧ n ≤ 65536 := by
  obtain ⟨cap, σ, F, par, d, rt, h1, _⟩ := h
  have := h1.le
  exact ⟨h1.lts.1, h1.lts.2, by omega⟩
theorem LG.fr {w w' : World} {pf g n : Nat} {E : Nat → Nat → Prop} {key : Nat → Int} {ed : Int} {S : List Nat} (h : LG w pf g n E key ed) (hf : Fr S w w') (hp : pf ∉ S) (hg : g ∉ S) : LG w' pf g n E key ed := by
  obtain ⟨cap, σ, F, par, d, rt, h1, h2⟩ := h
  exact ⟨cap, σ, F, par, d, rt, ⟨hf.blk h1.hd hp, h1.nodes.same (hf.keep g h1.nodes.lt hg), h1.ne, h1.le, h1.cap⟩, h2⟩
@[go_sem] theorem eq_lct (a : Addr) (w : World) : (binOp .eql 119 (.pointer (some a)) (.pointer (some a))).run Tryz.prog w = .ok (.bool true) w := by
  obtain ⟨j, hj⟩ := Option.isSome_iff_exists.1 (show (Tryz.prog.info? 194).isSome = true by kernel_rfl)
  exact run_eql_ptr_same w a Tryz.underlying119 hj

theorem valid_w {w : World} {pf : Nat} (hc : w.cell? ⟨pf, 0, none⟩ = some (.pointer (some ⟨pf, 0, none⟩))) :
    Calls Tryz.prog 152 #[.pointer (some ⟨pf, 0, none⟩)] w fun e w' => e = .returned (.bool true) ∧ w' = w := by
  go_enter Tryz.func152, Tryz.ntmps152
  go_wp2
  go_ret
  exact ⟨rfl, rfl⟩

def inV (n : Nat) (v : Int) : Bool := decide (0 ≤ v) && decide (v < n)

theorem has_w {w : World} {pf g n cap : Nat} {σ : Tbl} {ed : Int} (h : LctAt w pf g (n + 1) cap σ ed) (v : Int) :
    Calls Tryz.prog 133 #[.pointer (some ⟨pf, 0, none⟩), .int .i64 v] w fun e w' => e = .returned (.bool (inV n v)) ∧ w' = w := by
  have c0 := h.hd.cell 0
  have c1 := h.hd.cell 1
  have hN := h.le
  simp only [List.getElem?_cons_zero, List.getElem?_cons_succ] at c0 c1
  have hV := Lib.hid (valid_w c0)
  by_cases h1 : 0 ≤ v
  · by_cases h2 : v < n
    · have e : inV n v = true := by simp [inV, h1, h2]
      rw [e]; clear e
      go_enter Tryz.func133, Tryz.ntmps133
      go_wp2_with (go_at_call 152; refine hV.out.mono ?_; rintro e w' ⟨rfl, rfl⟩)
      go_ret
      exact ⟨rfl, rfl⟩
    · have e : inV n v = false := by simp [inV, h2]
      rw [e]; clear e
      have d2 : decide (v < (n : Int)) = false := decide_eq_false h2
      go_enter Tryz.func133, Tryz.ntmps133
      go_wp2_with (go_at_call 152; refine hV.out.mono ?_; rintro e w' ⟨rfl, rfl⟩)
      go_ret
      exact ⟨rfl, rfl⟩
  · have e : inV n v = false := by simp [inV, h1]
    rw [e]; clear e
    go_enter Tryz.func133, Tryz.ntmps133
    go_wp2_with (go_at_call 152; refine hV.out.mono ?_; rintro e w' ⟨rfl, rfl⟩)
    go_ret
    exact ⟨rfl, rfl⟩

theorem inV_nat {n : Nat} {v : Int} (h : inV n v = true) : ∃ k : Nat, v = k ∧ k < n := by
  simp only [inV, Bool.and_eq_true, decide_eq_true_eq] at h
  exact ⟨v.toNat, by omega, by omega⟩

/-- The numbers are vertices, and connected. -/
def ConnI (n : Nat) (E : Nat → Nat → Prop) (a b : Int) : Prop := inV n a = true ∧ inV n b = true ∧ Conn E a.toNat b.toNat

theorem top_up {N : Nat} {σ : Tbl} {F : Fst} {par d rt : Nat → Nat} (h : LF N σ F par d rt) {t : BT} {b : Nat} (hm : (t, 0) ∈ F) (hb : t.root = b) (hb0 : b ≠ 0) {a : Nat} (ha : 0 < a) (haN : a < N) (hne : a ≠ b) (hr : rt a = rt b) : (σ a).up ≠ 0 := by
  intro e0
  obtain ⟨p, hp, hap⟩ := mem_fnodes.1 ((h.mem a).2 ⟨ha, haN⟩)
  have hk := (h.rep p hp).kids hap
  have hbt : b ∈ t.nodes := hb ▸ BT.root_mem (by rw [hb]; exact hb0)
  by_cases hpt : b ∈ p.1.nodes
  · -- the same tree: a is no root
    rcases hk.2.2.1 with e | e
    · obtain ⟨R, hR⟩ := mem_split_perm hm
      have h' := h.perm hR
      have hp' := hR.mem_iff.1 hp
      rcases List.mem_cons.1 hp' with e2 | e2
      · rw [e2] at e; exact hne (e.trans hb)
      · exact h'.disj e2 b hbt hpt
    · rw [e0] at e; have := (h.lt hp e).1; omega
  · rcases hk.2.2.1 with e | e
    · have hu : p.2 = 0 := (hk.2.2.2.1 e).symm.trans e0
      have c1 := h.ch _ hm
      have c2 := h.ch _ hp
      rw [hu] at c2
      have z1 := h.seq0 hm
      have z2 := h.seq0 hp
      have sx := seq_mem.2 hbt
      have sy := seq_mem.2 hap
      dsimp only at c1 z1
      cases hs1 : t.seq with
      | nil => rw [hs1] at sx; cases sx
      | cons x s1 =>
        cases hs2 : p.1.seq with
        | nil => rw [hs2] at sy; cases sy
        | cons y s2 =>
          have mx : x ∈ t.nodes := seq_mem.1 (by rw [hs1]; simp)
          have my : y ∈ p.1.nodes := seq_mem.1 (by rw [hs2]; simp)
          rw [hs1] at c1 z1 sx; rw [hs2] at c2 z2 sy
          have ra := ch_rt_head h.rt0 h.rt1 c1 z1 b sx
          have rb := ch_rt_head h.rt0 h.rt1 c2 z2 a sy
          have hxy : x = y := by rw [← ra, ← hr, rb]
          obtain ⟨R, hR⟩ := mem_split_perm hm
          have h' := h.perm hR
          rcases List.mem_cons.1 (hR.mem_iff.1 hp) with e2 | e2
          · rw [e2] at hpt; exact hpt hbt
          · exact h'.disj e2 x mx (hxy ▸ my)
    · rw [e0] at e; have := (h.lt hp e).1; omega

theorem LctAt.drew {w : World} {pf g N cap : Nat} {σ : Tbl} {ed : Int} (h : LctAt w pf g N cap σ ed) (k : Nat) : LctAt (w.drewN k) pf g N cap σ ed := h.eqv (Eqv.drewN w k)

theorem expose_v {w : World} {pf g n cap : Nat} {σ : Tbl} {ed : Int} (h : LctAt w pf g (n + 1) cap σ ed) {par d rt : Nat → Nat} {F : Fst} (hF : LF (n + 1) σ F par d rt) (v : Nat) (hv : v < n) :
    Calls Tryz.prog 134 #[.pointer (some ⟨pf, 0, none⟩), .int .i64 ((v : Int) + 1)] w fun e w' => ∃ m τ l R, e = .returned (.int .i64 (m : Nat)) ∧ LctAt w' pf g (n + 1) cap τ ed ∧ Exposed (n + 1) σ F par d rt (v + 1) m τ l R ∧ Fr [g] w w' :=
  expose_w h hF (v + 1) (by omega) (by omega)

theorem connected_w {w : World} {pf g n : Nat} {E : Nat → Nat → Prop} {key : Nat → Int} {ed : Int} (h : LG w pf g n E key ed) (a b : Int) :
    Calls Tryz.prog 83 #[.pointer (some ⟨pf, 0, none⟩), .int .i64 a, .int .i64 b] w fun e w' => ∃ r : Bool, e = .returned (.bool r) ∧ (r = true ↔ ConnI n E a b) ∧ LG w' pf g n E key ed ∧ Fr [g] w w' := by
  have H := Lib.hid h
  obtain ⟨cap, σ, F, par, d, rt, hL, hF, hE, hk⟩ := h
  have HF := Lib.hid hF; clear hF
  have HE := Lib.hid hE; clear hE
  have HK := Lib.hid hk; clear hk
  have hN := hL.le
  cases hva : inV n a with
  | false =>
    have HR := Lib.hid (show ¬ ConnI n E a b from fun e => by rw [e.1] at hva; cases hva)
    have A1 := has_w hL a
    rw [hva] at A1
    have HA := Lib.hid A1; clear A1 hva
    go_enter Tryz.func83, Tryz.ntmps83
    go_wp2_with fail
    refine HA.out.mono ?_
    rintro _ w ⟨rfl, rfl⟩
    go_wp2
    go_ret
    exact ⟨false, rfl, by simp [HR.out], H.out, Fr.refl _ _⟩
  | true =>
    have A1 := has_w hL a
    rw [hva] at A1
    have HA := Lib.hid A1; clear A1
    cases hvb : inV n b with
    | false =>
      have HR := Lib.hid (show ¬ ConnI n E a b from fun e => by rw [e.2.1] at hvb; cases hvb)
      have B1 := has_w hL b
      rw [hvb] at B1
      have HB := Lib.hid B1; clear B1 hva hvb
      go_enter Tryz.func83, Tryz.ntmps83
      go_wp2_with fail
      refine HA.out.mono ?_
      rintro _ w ⟨rfl, rfl⟩
      go_wp2_with fail
      refine HB.out.mono ?_
      rintro _ w ⟨rfl, rfl⟩
      go_wp2
      go_ret
      exact ⟨false, rfl, by simp [HR.out], H.out, Fr.refl _ _⟩
    | true =>
      have B1 := has_w hL b
      rw [hvb] at B1
      have HB := Lib.hid B1; clear B1
      obtain ⟨v, rfl, hv⟩ := inV_nat hva
      obtain ⟨u, rfl, hu⟩ := inV_nat hvb
      have HC := Lib.hid (show ConnI n E v u ↔ Conn E v u from ⟨fun e => e.2.2, fun e => ⟨hva, hvb, e⟩⟩)
      clear hva hvb
      by_cases hvu : v = u
      · subst hvu
        go_enter Tryz.func83, Tryz.ntmps83
        go_wp2_with fail
        refine HA.out.mono ?_
        rintro _ w ⟨rfl, rfl⟩
        go_wp2_with fail
        refine HB.out.mono ?_
        rintro _ w ⟨rfl, rfl⟩
        go_wp2
        go_ret
        refine ⟨true, rfl, ?_, H.out, Fr.refl _ _⟩
        simp only [true_iff]; exact HC.out.2 (Conn.refl E v)
      · have hb : ((v : Int) == (u : Int)) = false := beq_eq_false_iff_ne.2 (by omega)
        have Hne := Lib.hid hvu; clear hvu
        go_enter Tryz.func83, Tryz.ntmps83
        go_wp2_with fail
        refine HA.out.mono ?_
        rintro _ w ⟨rfl, rfl⟩
        go_wp2_with fail
        refine HB.out.mono ?_
        rintro _ w ⟨rfl, rfl⟩
        go_wp2_with fail
        refine (expose_v hL HF.out v (by omega)).mono ?_
        rintro _ w2 ⟨m1, τ1, l1, R1, rfl, hL1, hE1, hF1⟩
        have HE1 := Lib.hid hE1; clear hE1
        go_wp2_with fail
        refine (expose_v hL1 HE1.out.lf u (by omega)).mono ?_
        rintro _ w3 ⟨m2, τ2, l2, R2, rfl, hL2, hE2, hF2⟩
        have HE2 := Lib.hid hE2; clear hE2
        have a2 := hL2.nodes.c2 (v + 1) (by omega)
        have d1 := hL2.hd.cell 1
        simp only [List.getElem?_cons_zero, List.getElem?_cons_succ] at d1
        have hv2 : ((v + 1 : Nat) : Int) < ((n + 1 : Nat) : Int) := by omega
        have hres : ((τ2 (v + 1)).up ≠ 0) ↔ Conn E v u := by
          rw [conn_rt HF.out.rtd HE.out]
          constructor
          · intro e
            apply Classical.byContradiction
            intro hc
            have h1 := HE2.out.frame (v + 1) hc
            rw [h1, (HE1.out.lf.rep _ (List.mem_cons_self)).1.2.1] at e
            exact e rfl
          · intro e
            exact top_up HE2.out.lf (List.mem_cons_self) rfl (by simp [BT.root]) (by omega) (by omega) (by simp only [BT.root]; have := Hne.out; omega) e
        have Hres := Lib.hid hres; clear hres
        have hFr : Fr [g] w w3 := hF1.then hF2
        have hLG : LG w3 pf g n E key ed := ⟨cap, τ2, _, par, d, rt, hL2, HE2.out.lf, HE.out, fun x hx => by rw [HE2.out.key, HE1.out.key]; exact HK.out x hx⟩
        have HLG := Lib.hid hLG; clear hLG
        by_cases hup : (τ2 (v + 1)).up = 0
        · rw [hup] at a2
          have Hup := Lib.hid hup; clear hup
          go_wp2
          go_ret
          exact ⟨false, rfl, by simp only [Bool.false_eq_true, false_iff]; exact fun e => Hres.out.2 (HC.out.1 e) Hup.out, HLG.out, hFr⟩
        · have hb0 : (((τ2 (v + 1)).up : Int) != 0) = true := bne_iff_ne.2 (by omega)
          have Hup := Lib.hid hup; clear hup
          go_wp2
          go_ret
          exact ⟨true, rfl, by simp only [true_iff]; exact HC.out.2 (Hres.out.1 Hup.out), HLG.out, hFr⟩

end Go.Proofs.YtgmnemndjjmgkaaGreat

/- lct: Size, Trees, Dist. -/
namespace Go.Proofs.YtgmnemndjjmgkaaGreat
open Go.RowKit
set_option maxRecDepth 10000
set_option maxHeartbeats 800000

theorem path_v {w : World} {pf g n cap : Nat} {σ : Tbl} {ed : Int} (h : LctAt w pf g (n + 1) cap σ ed) {par d rt : Nat → Nat} {F : Fst} (hF : LF (n + 1) σ F par d rt) (v u : Nat) (hv : v < n) (hu : u < n) :
    Calls Tryz.prog 132 #[.pointer (some ⟨pf, 0, none⟩), .int .i64 ((v : Int) + 1), .int .i64 ((u : Int) + 1)] w fun e w' => e = .returned (.tuple #[]) ∧ ∃ τ l R par' d' rt', LctAt w' pf g (n + 1) cap τ ed ∧ Pathed (n + 1) σ par rt (v + 1) (u + 1) τ l R par' d' rt' ∧ Fr [g] w w' :=
  path_w h hF (v + 1) (u + 1) (by omega) (by omega) (by omega) (by omega)

theorem Pathed.lg {w : World} {pf g n cap : Nat} {σ τ : Tbl} {E : Nat → Nat → Prop} {key : Nat → Int} {ed : Int} {par rt par' d' rt' : Nat → Nat} {i j : Nat} {l : BT} {R : Fst} (h : Pathed (n + 1) σ par rt i j τ l R par' d' rt') (hL : LctAt w pf g (n + 1) cap τ ed)
    (hE : ∀ v u, E v u ↔ Adj par (v + 1) (u + 1)) (hk : ∀ v, v < n → (σ (v + 1)).key = key v) : LG w pf g n E key ed :=
  ⟨cap, τ, _, par', d', rt', hL, h.lf, fun v u => (hE v u).trans (h.adj _ _).symm, fun v hv => by rw [h.key]; exact hk v hv⟩

/-- The path, told over the vertices. -/
theorem Pathed.at {n : Nat} {σ τ : Tbl} {E : Nat → Nat → Prop} {par rt par' d' rt' : Nat → Nat} {v u : Nat} {l : BT} {R : Fst} (h : Pathed (n + 1) σ par rt (v + 1) (u + 1) τ l R par' d' rt')
    (hE : ∀ v u, E v u ↔ Adj par (v + 1) (u + 1)) (hr : rt (v + 1) = rt (u + 1)) : ∃ p, IsPath E v u p ∧ p.map (· + 1) = l.seq ++ [u + 1] ∧ (∀ x ∈ p, x < n) := by
  obtain ⟨h1, h2⟩ := path_unshift hE (h.path hr)
  refine ⟨_, h1, h2, fun x hx => ?_⟩
  have : x + 1 ∈ l.seq ++ [u + 1] := by rw [← h2]; exact List.mem_map.2 ⟨x, hx, rfl⟩
  have hm : x + 1 ∈ (BT.node false l (u + 1) .nil).nodes := by rw [← seq_mem]; simpa [BT.seq] using this
  have := (h.lf.lt (List.mem_cons_self) hm).2
  omega

/-- A forest whose header counts its edges. -/
def LM (w : World) (pf g n : Nat) (E : Nat → Nat → Prop) (key : Nat → Int) : Prop := LG w pf g n E key ((n : Int) - nc n E)

theorem dist_w {w : World} {pf g n : Nat} {E : Nat → Nat → Prop} {key : Nat → Int} {ed : Int} (h : LG w pf g n E key ed) (a b : Int) :
    Calls Tryz.prog 179 #[.pointer (some ⟨pf, 0, none⟩), .int .i64 a, .int .i64 b] w fun e w' => ∃ x : Int, e = .returned (.int .i64 x) ∧ ((¬ ConnI n E a b ∧ x = -1) ∨ ∃ (v u : Nat) (p : List Nat), a = v ∧ b = u ∧ v < n ∧ u < n ∧ IsPath E v u p ∧ x = (p.length : Int) - 1) ∧ LG w' pf g n E key ed ∧ Fr [g] w w' := by
  go_enter Tryz.func179, Tryz.ntmps179
  go_wp2_with fail
  refine (connected_w h a b).mono ?_
  rintro _ w2 ⟨r, rfl, hr, h2, hF2⟩
  have HR := Lib.hid hr; clear hr
  cases r with
  | false =>
    have H2 := Lib.hid h2; clear h2 h
    go_wp2
    go_ret
    exact ⟨-1, rfl, .inl ⟨fun e => (by have := HR.out.2 e; cases this), rfl⟩, H2.out, hF2⟩
  | true =>
    obtain ⟨va, vb, hc⟩ := HR.out.1 rfl
    obtain ⟨v, rfl, hv⟩ := inV_nat va
    obtain ⟨u, rfl, hu⟩ := inV_nat vb
    clear va vb HR h
    obtain ⟨cap, σ, F, par, d, rt, hL, hF, hE, hk⟩ := h2
    have hrt := (conn_rt hF.rtd hE).1 hc
    have HF := Lib.hid hF; clear hF
    have HE := Lib.hid hE; clear hE
    have HK := Lib.hid hk; clear hk
    have hN := hL.le
    go_wp2_with fail
    refine (path_v hL HF.out v u hv hu).mono ?_
    rintro _ w3 ⟨rfl, τ, l, R, par', d', rt', hL3, hP, hF3⟩
    obtain ⟨p, hp1, hp2, hp3⟩ := hP.at HE.out hrt
    have hpl : (τ (u + 1)).size = (p.length : Int) ∧ p.length ≤ n ∧ 0 < p.length := by
      have h1 := (hP.lf.rep _ (List.mem_cons_self)).2.2.2.1
      have h2 : (BT.node false l (u + 1) .nil).nodes.length = p.length := by
        rw [← (BT.seq_perm _).length_eq]
        have := congrArg List.length hp2
        simpa [BT.seq] using this.symm
      have h3 := nodup_le hp1.nd hp3
      have h4 : 0 < p.length := List.length_pos_iff.2 hp1.ne
      refine ⟨?_, h3, h4⟩
      rw [h1, h2]; unfold wrap64; omega
    obtain ⟨q1, q2, q3⟩ := hpl
    have a5 := hL3.nodes.c5 (u + 1) (by omega)
    rw [q1] at a5
    have HP := Lib.hid hP; clear hP
    have Hp := Lib.hid hp1; clear hp1 hp2 hp3 q1
    have d1 := hL3.hd.cell 1
    simp only [List.getElem?_cons_zero, List.getElem?_cons_succ] at d1
    have hu2 : ((u + 1 : Nat) : Int) < ((n + 1 : Nat) : Int) := by omega
    go_wp2
    go_ret
    exact ⟨_, rfl, .inr ⟨v, u, p, rfl, rfl, hv, hu, Hp.out, rfl⟩, HP.out.lg hL3 HE.out HK.out, hF2.then hF3⟩

end Go.Proofs.YtgmnemndjjmgkaaGreat

namespace Go.Proofs.YtgmnemndjjmgkaaGreat
open Go.RowKit
set_option maxRecDepth 10000
set_option maxHeartbeats 800000

/-- The first vertex of a list: by its key, then its number. -/
def FirstOf (key : Nat → Int) (p : List Nat) (m : Nat) : Prop := m ∈ p ∧ ∀ x ∈ p, x ≠ m → key m < key x ∨ (key m = key x ∧ m < x)

theorem min_w {w : World} {pf g n : Nat} {E : Nat → Nat → Prop} {key : Nat → Int} {ed : Int} (h : LG w pf g n E key ed) (a b : Int) : Calls Tryz.prog 82 #[.pointer (some ⟨pf, 0, none⟩), .int .i64 a, .int .i64 b] w fun e w' => ((¬ ConnI n E a b ∧ e = .returned (.tuple #[.int .i64 0, .bool false])) ∨ ∃ (v u : Nat) (p : List Nat) (m : Nat), a = v ∧ b = u ∧ v < n ∧ u < n ∧ IsPath E v u p ∧ (∀ x ∈ p, x < n) ∧ FirstOf key p m ∧ e = .returned (.tuple #[.int .i64 m, .bool true])) ∧ LG w' pf g n E key ed ∧ Fr [g] w w' := by
  go_enter Tryz.func82, Tryz.ntmps82
  go_wp2_with fail
  refine (connected_w h a b).mono ?_
  rintro _ w2 ⟨r, rfl, hr, h2, hF2⟩
  have HR := Lib.hid hr; clear hr
  cases r with
  | false =>
    have H2 := Lib.hid h2; clear h2 h
    go_wp2
    go_ret2
    exact ⟨.inl ⟨fun e => (by have := HR.out.2 e; cases this), rfl⟩, H2.out, hF2⟩
  | true =>
    obtain ⟨va, vb, hc⟩ := HR.out.1 rfl
    obtain ⟨v, rfl, hv⟩ := inV_nat va
    obtain ⟨u, rfl, hu⟩ := inV_nat vb
    clear va vb HR h
    obtain ⟨cap, σ, F, par, d, rt, hL, hF, hE, hk⟩ := h2
    have hrt := (conn_rt hF.rtd hE).1 hc
    have HF := Lib.hid hF; clear hF
    have HE := Lib.hid hE; clear hE
    have HK := Lib.hid hk; clear hk
    have hN := hL.le
    go_wp2_with fail
    refine (path_v hL HF.out v u hv hu).mono ?_
    rintro _ w3 ⟨rfl, τ, l, R, par', d', rt', hL3, hP, hF3⟩
    obtain ⟨p, hp1, hp2, hp3⟩ := hP.at HE.out hrt
    have hbest : ∃ m, (τ (u + 1)).first = m + 1 ∧ m < n ∧ FirstOf key p m := by
      have h1 := (hP.lf.rep _ (List.mem_cons_self)).2.2.2.2.2
      have hmem : ∀ x, x ∈ (BT.node false l (u + 1) .nil).nodes ↔ x ∈ p.map (· + 1) := by
        intro x; rw [← seq_mem, hp2]; simp [BT.seq]
      have hkey : ∀ x, x < n → (τ (x + 1)).key = key x := fun x hx => by rw [hP.key]; exact HK.out x hx
      obtain ⟨m, hm, e⟩ := List.mem_map.1 ((hmem _).1 h1.1)
      refine ⟨m, e.symm, hp3 m hm, hm, fun x hx hne => ?_⟩
      have := h1.2 (x + 1) ((hmem _).2 (List.mem_map.2 ⟨x, hx, rfl⟩)) (by rw [← e]; omega)
      rw [← e] at this
      unfold beforeB at this
      rw [hkey m (hp3 m hm), hkey x (hp3 x hx)] at this
      simp only [Bool.or_eq_true, Bool.and_eq_true, decide_eq_true_eq] at this
      omega
    obtain ⟨m, q1, q2, q3⟩ := hbest
    have a6 := hL3.nodes.c6 (u + 1) (by omega)
    rw [q1] at a6
    have HP := Lib.hid hP; clear hP
    have Hp := Lib.hid (And.intro hp1 (And.intro hp3 q3)); clear hp1 hp2 hp3 q1 q3
    have d1 := hL3.hd.cell 1
    simp only [List.getElem?_cons_zero, List.getElem?_cons_succ] at d1
    have hu2 : ((u + 1 : Nat) : Int) < ((n + 1 : Nat) : Int) := by omega
    have hw1 : ((m + 1 : Nat) : Int) - 1 = m := by omega
    go_wp2
    go_ret2
    exact ⟨.inr ⟨v, u, p, m, rfl, rfl, hv, hu, Hp.out.1, Hp.out.2.1, Hp.out.2.2, rfl⟩, HP.out.lg hL3 HE.out HK.out, hF2.then hF3⟩

end Go.Proofs.YtgmnemndjjmgkaaGreat
