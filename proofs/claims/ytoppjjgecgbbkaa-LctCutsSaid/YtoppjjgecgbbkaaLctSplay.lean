/- lct: splay. -/
import Derived.Deep.LoopGhost
import Derived.Test.YtoppjjgecgbbkaaLctBack
namespace Go.Proofs.Ytoppjjgecgbbkaa
open Go.RowKit Go.Shelf
set_option maxRecDepth 10000
set_option maxHeartbeats 800000
attribute [local go_sem] Oper.semAt_some

theorem LctAt.below {w w' : World} {pf g N cap n : Nat} {σ : Tbl} {ed : Int} (h : LctAt w pf g N cap σ ed) (hb : Below n w w') (hp : pf < n) (hg : g < n) : LctAt w' pf g N cap σ ed :=
  ⟨h.hd.of_same (hb.block pf hp), h.nodes.same (hb.block g hg), h.ne, h.le, h.cap⟩
theorem LctAt.lts {w : World} {pf g N cap : Nat} {σ : Tbl} {ed : Int} (h : LctAt w pf g N cap σ ed) : pf < w.heap.size ∧ g < w.heap.size := ⟨h.hd.lt, h.nodes.lt⟩

theorem cnodes_p {a : Fm} : ∀ {c : List Fm}, a ∈ c → a.p ∈ cnodes c
  | b :: c, h => by
    rcases List.mem_cons.1 h with rfl | h
    · simp [cnodes]
    · simp only [cnodes, List.cons_append, List.mem_cons, List.mem_append]; exact .inr (.inr (cnodes_p h))
theorem cnodes_len : ∀ c : List Fm, c.length ≤ (cnodes c).length
  | [] => Nat.le_refl _
  | a :: c => by have := cnodes_len c; simp [cnodes]; omega
/-- Different numbers below a bound are no more than the bound. -/
theorem nodup_le {l : List Nat} {N : Nat} (h : l.Nodup) (hl : ∀ x ∈ l, x < N) : l.length ≤ N := by
  have h1 : l ⊆ List.range N := fun x hx => List.mem_range.2 (hl x hx)
  have := h.length_le_of_subset h1
  simpa using this
def slLen : Value → Nat
  | .slice _ n _ => n
  | _ => 0
theorem Fr.of_grown {w w' : World} {b : Nat} {row : Option Nat} {o : Obj} (hg : (w.alloc o).grownBy w' row) (hr : ∀ k, row = some k → b ≤ k) (hb : b ≤ w.heap.size) : Below b w w' :=
  ((Below.refl b w).alloc hb o).grown hg (by simp; omega) hr

theorem Try.info3 : (Try.prog.info? 3).map (fun i => (i.zero, i.size, i.bytes)) = some (some (.int .i64 0), 1, 8) := by kernel_rfl
theorem LctAt.grown {w w' : World} {pf g N cap : Nat} {σ : Tbl} {ed : Int} {row : Option Nat} (h : LctAt w pf g N cap σ ed) (hg : w.grownBy w' row) (hr : ∀ k, row = some k → k ≠ pf ∧ k ≠ g) : LctAt w' pf g N cap σ ed :=
  ⟨h.hd.of_same (hg.block pf h.hd.lt (fun e => (hr _ e.symm).1 rfl)), h.nodes.same (hg.block g h.nodes.lt (fun e => (hr _ e.symm).2 rfl)), h.ne, h.le, h.cap⟩
theorem InR.pushAll {N : Nat} : ∀ {ps : List Nat} {σ : Tbl}, InR N σ → (∀ x ∈ ps, x < N) → InR N (pushAll σ ps)
  | [], _, h, _ => h
  | p :: ps, σ, h, hp => InR.pushAll (ps := ps) (h.push p (hp p (by simp))) (fun x hx => hp x (by simp [hx]))
theorem pushAll_snoc (σ : Tbl) (ps : List Nat) (x : Nat) : pushAll σ (ps ++ [x]) = push (pushAll σ ps) x := by simp [pushAll]
theorem ownsRow_cells {w : World} {e : TypeId} {g n cap : Nat} {xs : List Value} (h : w.ownsRow 0 e 1 (.slice (some ⟨g, 0, none⟩) n cap) n xs) (hn : 0 < n) : n ≤ cap ∧ g < w.heap.size ∧ ∀ i, i < n → w.cell? ⟨g, i, none⟩ = xs[i]? := by
  obtain ⟨g', cap', e1, h1, h2, _⟩ := ownsRow_at h hn
  simp only [Value.slice.injEq, Option.some.injEq, Addr.mk.injEq, and_true, true_and] at e1
  obtain ⟨rfl, rfl⟩ := e1
  refine ⟨h1, h2, fun i hi => ?_⟩
  obtain ⟨g', cap', e1, _, _, h3, _⟩ := ownsRow_at h hi
  simp only [Value.slice.injEq, Option.some.injEq, Addr.mk.injEq, and_true, true_and] at e1
  obtain ⟨rfl, rfl⟩ := e1
  exact h3
theorem bks_map (N m : Nat) (P : Nat → Nat) (hP : ∀ i, P i < N) (k : Nat) : (bks N m P hP k).map (fun x => x.1.2) = (List.range k).map (fun k => P (m - 1 - k)) := by simp [bks, bk, Function.comp_def]
theorem range_rev (P : List Nat) : (List.range P.length).map (fun k => P.getD (P.length - 1 - k) 0) = P.reverse := by
  apply List.ext_getElem?
  intro j
  by_cases h : j < P.length
  · rw [List.getElem?_map, List.getElem?_range h, List.getElem?_reverse h]
    simp only [Option.map_some, List.getD_eq_getElem?_getD]
    rw [List.getElem?_eq_getElem (show P.length - 1 - j < P.length by omega)]
    rfl
  · rw [List.getElem?_eq_none (by simp; omega), List.getElem?_eq_none (by simp; omega)]

def encI (x : Nat) : Value := .int .i64 x

theorem splay_w {w : World} {pf g N cap : Nat} {σ : Tbl} {ed : Int} (h : LctAt w pf g N cap σ ed) (i : Nat) (hR : InR N σ) (c : List Fm) (f : Bool) (l r : BT) (u : Nat)
    (hrep : Rep σ (plug c (.node f l i r)) u) (hnd : (plug c (.node f l i r)).nodes.Nodup) (hO : Out σ u (plug c (.node f l i r)).nodes) (hlt : ∀ x ∈ (plug c (.node f l i r)).nodes, x < N) :
    Calls Try.prog 55 #[.pointer (some ⟨pf, 0, none⟩), .int .i64 i] w fun e w' => e = .returned (.tuple #[]) ∧
      ∃ σ' l' r', LctAt w' pf g N cap σ' ed ∧ Rep σ' (.node false l' i r') u ∧ (BT.node false l' i r').seq = (plug c (.node f l i r)).seq ∧ (BT.node false l' i r').nodes.Perm (plug c (.node f l i r)).nodes ∧ Rotated σ σ' (plug c (.node f l i r)).nodes ∧ InR N σ' ∧ Fr [g] w w' := by
  obtain ⟨hpf, hg⟩ := h.lts
  have hN := h.le
  have HR := Lib.hid hR; clear hR
  have hi0 : i ≠ 0 := (rep_plug.1 hrep).1.1.1
  have hcl := climb hrep hi0 hnd hO
  have hPm : ∀ x ∈ i :: c.map Fm.p, x ∈ (plug c (.node f l i r)).nodes := by
    intro x hx
    refine (plug_nodes c _).mem_iff.2 ?_
    rcases List.mem_cons.1 hx with rfl | hx
    · simp [BT.nodes]
    · rw [List.mem_append]; right
      obtain ⟨a, ha, rfl⟩ := List.mem_map.1 hx
      exact cnodes_p ha
  have hPN : ∀ x ∈ i :: c.map Fm.p, x < N := fun x hx => hlt x (hPm x hx)
  have hPl : (i :: c.map Fm.p).length = c.length + 1 := by simp
  have hway : Way (plug c (.node f l i r)) ((c.map Fm.p).reverse ++ [i]) := way_plug c ⟨rfl, .inl rfl⟩
  have hlen : c.length + 1 ≤ N := by
    have h1 := nodup_le hnd hlt
    have h2 := (plug_nodes c (.node f l i r)).length_eq
    have h3 := cnodes_len c
    simp only [List.length_append, BT.nodes, List.length_cons] at h2
    omega
  generalize hPP : i :: c.map Fm.p = P at *
  have hP0 : P[0]? = some i := by rw [← hPP]; rfl
  have HPP := Lib.hid hPP; clear hPP
  have HC := Lib.hid hcl; clear hcl
  have HW := Lib.hid hway; clear hway
  have HRep := Lib.hid (And.intro hrep (And.intro hnd hO)); clear hrep hnd hO
  have HPN := Lib.hid hPN; clear hPN
  have HPl := Lib.hid hPl; clear hPl
  refine (callsIn_wide (n := 9)).1 ?_
  refine callsIn_of_wp_marks Try.func55 rfl trivial ?_ rfl
  simp only [Try.ntmps55, List.size_toArray, List.length_cons, List.length_nil, Nat.reduceAdd, Nat.reduceSub, Array.replicate_succ, Array.replicate_zero, List.push_toArray, List.append_toArray, List.nil_append, List.cons_append]
  refine wpIn_wide.2 ?_
  go_wp2
  go_step3
  go_wp2
  refine wp_label ?_
  go_wp2
  have hL0 : LctAt (w.alloc (.cells #[.pointer (some ⟨pf, 0, none⟩)] 25)) pf g N cap σ ed := h.below ((Below.refl w.heap.size w).alloc (Nat.le_refl _) _) hpf hg
  have hB0 : Below w.heap.size w (w.alloc (.cells #[.pointer (some ⟨pf, 0, none⟩)] 25)) := (Below.refl w.heap.size w).alloc (Nat.le_refl _) _
  have hbox : (w.alloc (.cells #[.pointer (some ⟨pf, 0, none⟩)] 25)).cell? ⟨w.heap.size, 0, none⟩ = some (.pointer (some ⟨pf, 0, none⟩)) := cell_new1 w _ _ _ rfl
  have hsz : (w.alloc (.cells #[.pointer (some ⟨pf, 0, none⟩)] 25)).heap.size = w.heap.size + 1 := by simp
  generalize w.alloc (.cells #[.pointer (some ⟨pf, 0, none⟩)] 25) = W0 at *
  clear h
  go_loopw [4, 5] (fun a b wr => ∃ k x : Nat, k ≤ c.length ∧ Hid (P[k]? = some x) ∧ b = .int .i64 x ∧ wr.ownsRow 0 3 1 a k ((P.take k).map encI) ∧ Below (w.heap.size + 1) W0 wr ∧ ∀ q, a.ownBlock = some q → w.heap.size + 1 ≤ q) (fun a _ _ => c.length + 1 - slLen a)
  case atStart => exact ⟨0, i, Nat.zero_le _, Lib.hid hP0, rfl, World.ownsRow_nil _ _ _ _, Below.refl _ _, fun q e => by cases e⟩
  case round =>
    obtain ⟨k, x, hk, hx, rfl, hown, hB, hq⟩ := hrel
    obtain ⟨a9, c9, rfl⟩ := ownsRow_slice hown
    have hL : LctAt wr pf g N cap σ ed := hL0.below hB (by omega) (by omega)
    have hxN : x < N := HPN.out x (List.mem_of_getElem? hx.out)
    have hS := Lib.hid hB.size
    have hnx : ∀ b : Bool, (sideOf σ x).2 = b → (b = true → ∃ y, P[k + 1]? = some y ∧ (σ x).up = y ∧ k + 1 ≤ c.length) ∧ (b = false → k = c.length) := by
      intro b hb
      have hkl := HPl.out
      by_cases e : k = c.length
      · refine ⟨fun h => ?_, fun _ => e⟩
        have := HC.out.2 x (by show (i :: c.map Fm.p)[c.length]? = _; rw [HPP.out, ← e]; exact hx.out)
        rw [hb, h] at this; cases this
      · have hy : P[k + 1]? = some (P[k + 1]'(by omega)) := List.getElem?_eq_getElem _
        have := HC.out.1 k x (P[k + 1]'(by omega)) (by show (i :: c.map Fm.p)[k]? = _; rw [HPP.out]; exact hx.out) (by show (i :: c.map Fm.p)[k + 1]? = _; rw [HPP.out]; exact hy)
        refine ⟨fun _ => ⟨_, hy, this.2, by omega⟩, fun h => ?_⟩
        rw [hb, h] at this; cases this.1
    have Hnx := Lib.hid hnx; clear hnx
    go_wp2_with (at_builtin; refine wpList_app1 rfl _ _ 41 rfl 3 (.int .i64 0) 8 Try.underlying41 Try.info3 rfl (.slice a9 k c9) k _ rfl (hown.alloc _) wr.heap.size (.int .i64 x) rfl (cell_new1 _ _ _ _ rfl) rfl (by omega) (by decide) ?_; intro g' cap' w3 hown3 hgrow3 hg3; have hB3 : Below (w.heap.size + 1) W0 w3 := hB.trans (Fr.of_grown hgrow3 hq (by have := hB.size; omega)); have hb3 := (hB3.cell (p := ⟨w.heap.size, 0, none⟩) (by simp)).trans hbox)
    have hL3 : LctAt w3 pf g N cap σ ed := hL0.below hB3 (by omega) (by omega)
    have hq3 : w.heap.size + 1 ≤ g' := by
      rcases hg3 with e | e
      · exact hq _ e
      · simp only [World.size_alloc] at e; have := hS.out; omega
    rw [show (P.take k).map encI ++ [Value.int .i64 x] = (P.take (k + 1)).map encI by rw [List.take_add_one, hx.out]; simp [encI]] at hown3
    clear hown hgrow3 hg3 hL hB hS hq
    refine (side_w hL3 x hxN HR.out).mono ?_
    rintro _ w3 ⟨rfl, rfl⟩
    generalize hsd : sideOf σ x = sx at *
    obtain ⟨s0, b⟩ := sx
    have Hn := Lib.hid (Hnx.out b rfl); clear Hnx
    dsimp only
    cases b with
    | false =>
      have hkc := Hn.out.2 rfl
      subst hkc
      clear Hn
      rw [List.take_of_length_le (by rw [HPl.out]; exact Nat.le_refl _)] at hown3
      obtain ⟨hcap, hglt, hcells⟩ := ownsRow_cells hown3 (by omega)
      clear hown3
      go_wp2
      have hB4 : Below (w.heap.size + 1) W0 (w3.alloc (.cells #[.slice (some ⟨g', 0, none⟩) (c.length + 1) cap'] 41)) := hB3.alloc (by have := hB3.size; omega) _
      have hc4 := Blk.new w3 [.slice (some ⟨g', 0, none⟩) (c.length + 1) cap'] 41
      have hr4 : ∀ j, j < c.length + 1 → (w3.alloc (.cells #[.slice (some ⟨g', 0, none⟩) (c.length + 1) cap'] 41)).cell? ⟨g', j, none⟩ = some (.int .i64 (P.getD j 0)) := by
        intro j hj
        rw [World.cell?_of_block (Below.heap_alloc w3 _ g' hglt), hcells j hj]
        simp only [List.getElem?_map, List.getD_eq_getElem?_getD]
        rw [List.getElem?_eq_getElem (show j < P.length by rw [HPl.out]; omega)]
        rfl
      have hs4 : (w3.alloc (.cells #[.slice (some ⟨g', 0, none⟩) (c.length + 1) cap'] 41)).heap.size = w3.heap.size + 1 := by simp
      generalize w3.alloc (.cells #[.slice (some ⟨g', 0, none⟩) (c.length + 1) cap'] 41) = W1 at *
      have hs3 := hB3.size
      have hL4 : LctAt W1 pf g N cap σ ed := hL0.below hB4 (by omega) (by omega)
      have hb4 := (hB4.cell (p := ⟨w.heap.size, 0, none⟩) (by simp)).trans hbox
      have hPd : ∀ j, P.getD j 0 < N := by
        intro j
        rw [List.getD_eq_getElem?_getD]
        cases e : P[j]? with
        | none => simp; omega
        | some y => exact HPN.out y (List.mem_of_getElem? e)
      clear hcells hb3 hL3 hx
      refine (wpIn_wide (n := 9)).1 ?_
      refine' wpIn_rangeFunc_ownF (n := 9) rfl (by decide) (α := Pl N) (gf := 65) (lb := #[.pointer (some ⟨w3.heap.size, 0, none⟩)]) rfl trivial (enters_of Try.func65 (by kernel_rfl) rfl)
        (encs := fun x => #[.int .i64 x.1.1, .int .i64 x.1.2]) (Kp := Bx W1.heap.size g) (S := fun ys => ys = bks N (c.length + 1) (fun j => P.getD j 0) hPd (c.length + 1)) (Sp := fun _ => True) (N := c.length + 1) (w0 := W1)
        (fun l J Jx W hW _ _ hY h0 => back1_in 8 l w3.heap.size g' (c.length + 1) cap' N g W1.heap.size (fun j => P.getD j 0) hPd hN (by omega) (by decide) (by omega) (by omega) (by omega) (by omega) J Jx hY W ((hW.cell (p := ⟨w3.heap.size, 0, none⟩) (by show w3.heap.size < _; omega)).trans (hc4.cell 0)) hcap (fun j hj => (hW.cell (p := ⟨g', j, none⟩) (by show g' < _; omega)).trans (hr4 j hj)) h0)
        (fun h k => h.trans k) (bxK_b (Nat.le_refl _)) (Below.refl _ _) (fun _ => rfl)
        (fun pre W => (LctAt W pf g N cap (pushAll σ (pre.map (fun x => x.1.2))) ed ∧ W.cell? ⟨w.heap.size, 0, none⟩ = some (.pointer (some ⟨pf, 0, none⟩))) ∧ Bx W1.heap.size g W1 W)
        (fun _ _ _ => False)
        (OwnFrom.and (fun s A B row hs hg hr => ⟨hs.1.grown hg (fun k e => by have := (hr k e).1; omega), (World.cell?_of_block (hg.block w.heap.size (cell_lt (a := ⟨w.heap.size, 0, none⟩) hs.2) (fun e => by have := (hr w.heap.size e.symm).1; omega))).trans hs.2⟩) (ownFrom_bx (Nat.le_refl _) (Nat.le_refl _)))
        (fun c s A B row hs hg hr => hs) ⟨⟨hL4, hb4⟩, Bx.refl _ _ _⟩ _ ?assign ?body ?done ?stop
      case assign =>
        intro l x W K hK
        gi_wp2
        exact hK
      case body =>
        rintro l pre x W ⟨⟨hLp, hbp⟩, hBp⟩ _
        obtain ⟨⟨x1, x2⟩, hx2⟩ := x
        dsimp only at hx2
        gi_wp2_with (refine ⟨trivial, ?_⟩; gi_at_call 56; refine (CallsIn.inRound l (callsIn_wide.2 (push_w hLp x2 hx2 (HR.out.pushAll (fun y hy => by obtain ⟨z, _, rfl⟩ := List.mem_map.1 hy; exact z.2))))).mono ?_; rintro e w' ⟨rfl, hLq, hFq⟩)
        obtain ⟨arr, hga, _⟩ := hLp.nodes
        refine ⟨keepsOthers_fr hFq hga, Bx.of_fr hFq hBp.size, ⟨?_, hFq.cell hbp (by show w.heap.size ∉ [g]; simp; omega)⟩, hBp.trans (Bx.of_fr hFq hBp.size)⟩
        rw [List.map_append, List.map_cons, List.map_nil, pushAll_snoc]
        exact hLq
      case stop =>
        rintro D c pre W hD _ hf hK
        exact hf.elim
      case done =>
        rintro D ys W hD rfl ⟨⟨hLd, hbd⟩, hBd⟩ hK
        rw [bks_map, ← HPl.out, range_rev, show P.reverse = (c.map Fm.p).reverse ++ [i] by rw [← HPP.out]; simp] at hLd
        have hsp : ∃ c' l' r', Spin N σ (pushAll σ ((c.map Fm.p).reverse ++ [i])) u i (plug c (.node f l i r)) c' l' r' := by
          obtain ⟨c', l', r', a1, a2, a3, a4, a5⟩ := pushAll_rep (c := []) (t := plug c (.node f l i r)) HRep.out.1 HRep.out.2.1 (fun _ h => by cases h) HW.out
          exact ⟨c', l', r', a1, a2, a3, a4, a5, HR.out.pushAll (fun x hx => HPN.out x (by rw [← HPP.out]; simp at hx; simp; rcases hx with h | h; exact .inr h; exact .inl h))⟩
        obtain ⟨c1, l1, r1, hS1⟩ := hsp
        have HS1 := Lib.hid hS1; clear hS1
        generalize pushAll σ ((c.map Fm.p).reverse ++ [i]) = τ1 at *
        have hBw : Bx w.heap.size g w W := (Bx.of_below (hB0.trans (hB4.mono (by omega)))).trans (hBd.mono (by omega))
        clear hc4 hr4 hL4 hb4 hBd hPd hB4 hB3 hglt
        go_wp2
        go_loopg [] (c1.length + 1) (fun k wr => ∃ τ c1 l1 r1, Hid (c1.length < k ∧ Spin N σ τ u i (plug c (.node f l i r)) c1 l1 r1) ∧ LctAt wr pf g N cap τ ed ∧ Bx w.heap.size g w wr ∧ wr.cell? ⟨w.heap.size, 0, none⟩ = some (.pointer (some ⟨pf, 0, none⟩)) ∧ wr.heap[D]? = some (.deferred (some [])))
        case atStart => exact ⟨τ1, c1, l1, r1, Lib.hid ⟨Nat.lt_succ_self _, HS1.out⟩, hLd, hBw, hbd, hK⟩
        case round =>
          clear hLd hbd hBw hK HS1
          obtain ⟨τ, c2, l2, r2, HS, hLr, hBr, hbr, hKr⟩ := hrel
          have hiN : i < N := hlt i ((plug_nodes c _).mem_iff.2 (by simp [BT.nodes]))
          have hi2 : (i : Int) < N := by omega
          have d1 := hLr.hd.cell 1
          simp only [List.getElem?_cons_zero, List.getElem?_cons_succ] at d1
          have hDg : D ≠ g := by omega
          have hwg : w.heap.size ≠ g := by omega
          cases c2 with
          | nil =>
            have hsd : (sideOf τ i).2 = false := (climb HS.out.2.rep hi0 (HS.out.2.nd HRep.out.2.1) (HS.out.2.out HRep.out.2.2)).2 i rfl
            go_wp2_with fail
            refine (side_w hLr i hiN HS.out.2.inR).mono ?_
            rintro _ wx ⟨rfl, rfl⟩
            rw [hsd]
            go_wp2
            rw [Exit.noGoto_ret]
            refine ⟨by simp, .inl ⟨_, _, rfl, run_takeDeferred hKr, ?_⟩⟩
            refine ⟨.tuple #[], results_none rfl _ _ _, rfl, τ, l2, r2, ?_, HS.out.2.rep, HS.out.2.seq, HS.out.2.perm, HS.out.2.rot, HS.out.2.inR, ?_⟩
            · exact hLr.grown (grownBy_putObj' _ D (.deferred none)) (fun k e => by cases e; omega)
            · exact (hBr.grown (grownBy_putObj' _ D (.deferred none)) hBr.size (fun k e => by cases e; omega)).fr
          | cons a c3 =>
            obtain ⟨hs1, hu1⟩ := side_frame HS.out.2.rep hi0 (HS.out.2.nd HRep.out.2.1)
            change sideOf τ i = _ at hs1
            change (τ i).up = _ at hu1
            have hpN : a.p < N := hu1 ▸ (HS.out.2.inR i hiN).2.2.1
            have hp2 : (a.p : Int) < N := by omega
            have hp0 : a.p ≠ 0 := (rep_plug.1 HS.out.2.rep).2.1.1
            have a2 := hLr.nodes.c2 i hiN
            rw [hu1] at a2
            have S1 := Lib.hid (side_w hLr i hiN HS.out.2.inR)
            rw [hs1] at S1
            have S2 := Lib.hid (side_w hLr a.p hpN HS.out.2.inR)
            clear hs1 hu1
            cases c3 with
            | nil =>
              have hsd : (sideOf τ a.p).2 = false := (climb HS.out.2.rep hi0 (HS.out.2.nd HRep.out.2.1) (HS.out.2.out HRep.out.2.2)).2 a.p rfl
              rw [hsd] at S2
              have HZ := Lib.hid (HS.out.2.zig HRep.out.2.1 HRep.out.2.2 hiN)
              clear hsd
              go_wp2_with fail
              refine S1.out.mono ?_
              rintro _ wx ⟨rfl, rfl⟩
              go_wp2_with fail
              refine S2.out.mono ?_
              rintro _ wx ⟨rfl, rfl⟩
              go_wp2_with fail
              refine (rotate_w hLr i hiN HS.out.2.inR HZ.out.1.1 HZ.out.1.2.1 HZ.out.1.2.2.1 HZ.out.1.2.2.2).mono ?_
              rintro _ wy ⟨rfl, hLy, hFy⟩
              go_wp2
              obtain ⟨hz, l3, r3, hS3⟩ := HZ.out
              go_roundg 1
              case measure => have := HS.out.1; simp at this; omega
              case rel => exact ⟨_, [], l3, r3, Lib.hid ⟨by simp, hS3⟩, hLy, hBr.trans (Bx.of_fr hFy hBr.size), hFy.cell hbr (by simpa using hwg), (hFy.keep D (Array.getElem?_eq_some_iff.1 hKr).1 (by simpa using hDg)).trans hKr⟩
            | cons b c4 =>
              obtain ⟨hs1, _⟩ := side_frame (c := c4) (a := b) (t := a.fill (.node false l2 i r2)) HS.out.2.rep (by rw [fill_root]; exact hp0) (HS.out.2.nd HRep.out.2.1)
              rw [fill_root] at hs1
              rw [hs1] at S2
              clear hs1
              by_cases hab : a.s = b.s
              · have hb : ((sd a.s : Int) == (sd b.s : Int)) = true := by rw [hab]; exact beq_self_eq_true _
                obtain ⟨z1, a', z2⟩ := HS.out.2.zigp hab HRep.out.2.1 HRep.out.2.2 hpN
                obtain ⟨z3, z4⟩ := z2.zig HRep.out.2.1 HRep.out.2.2 hiN
                have HZ1 := Lib.hid z1; clear z1
                have HZ2 := Lib.hid z2; clear z2
                have HZ3 := Lib.hid z3; clear z3
                have HZ4 := Lib.hid z4; clear z4
                clear hab
                go_wp2_with fail
                refine S1.out.mono ?_
                rintro _ wx ⟨rfl, rfl⟩
                go_wp2_with fail
                refine S2.out.mono ?_
                rintro _ wx ⟨rfl, rfl⟩
                go_wp2_with fail
                refine (rotate_w hLr a.p hpN HS.out.2.inR HZ1.out.1 HZ1.out.2.1 HZ1.out.2.2.1 HZ1.out.2.2.2).mono ?_
                rintro _ wy ⟨rfl, hLy, hFy⟩
                have hby := hFy.cell hbr (by simpa using hwg)
                go_wp2_with fail
                refine (rotate_w hLy i hiN HZ2.out.inR HZ3.out.1 HZ3.out.2.1 HZ3.out.2.2.1 HZ3.out.2.2.2).mono ?_
                rintro _ wz ⟨rfl, hLz, hFz⟩
                go_wp2
                obtain ⟨l3, r3, hS3⟩ := HZ4.out
                go_roundg (c4.length + 1)
                case measure => have := HS.out.1; simp at this; omega
                case rel =>
                  have hF2 := hFy.then hFz
                  exact ⟨_, c4, l3, r3, Lib.hid ⟨by simp, hS3⟩, hLz, hBr.trans (Bx.of_fr hF2 hBr.size), hF2.cell hbr (by simpa using hwg), (hF2.keep D (Array.getElem?_eq_some_iff.1 hKr).1 (by simpa using hDg)).trans hKr⟩
              · have hb : ((sd a.s : Int) == (sd b.s : Int)) = false := by
                  cases h1 : a.s <;> cases h2 : b.s <;> simp_all [sd]
                obtain ⟨z1, l5, r5, z2⟩ := HS.out.2.zig HRep.out.2.1 HRep.out.2.2 hiN
                obtain ⟨z3, z4⟩ := z2.zig HRep.out.2.1 HRep.out.2.2 hiN
                have HZ1 := Lib.hid z1; clear z1
                have HZ2 := Lib.hid z2; clear z2
                have HZ3 := Lib.hid z3; clear z3
                have HZ4 := Lib.hid z4; clear z4
                clear hab
                go_wp2_with fail
                refine S1.out.mono ?_
                rintro _ wx ⟨rfl, rfl⟩
                go_wp2_with fail
                refine S2.out.mono ?_
                rintro _ wx ⟨rfl, rfl⟩
                go_wp2_with fail
                refine (rotate_w hLr i hiN HS.out.2.inR HZ1.out.1 HZ1.out.2.1 HZ1.out.2.2.1 HZ1.out.2.2.2).mono ?_
                rintro _ wy ⟨rfl, hLy, hFy⟩
                have hby := hFy.cell hbr (by simpa using hwg)
                go_wp2_with fail
                refine (rotate_w hLy i hiN HZ2.out.inR HZ3.out.1 HZ3.out.2.1 HZ3.out.2.2.1 HZ3.out.2.2.2).mono ?_
                rintro _ wz ⟨rfl, hLz, hFz⟩
                go_wp2
                obtain ⟨l3, r3, hS3⟩ := HZ4.out
                go_roundg (c4.length + 1)
                case measure => have := HS.out.1; simp at this; omega
                case rel =>
                  have hF2 := hFy.then hFz
                  exact ⟨_, c4, l3, r3, Lib.hid ⟨by simp, hS3⟩, hLz, hBr.trans (Bx.of_fr hF2 hBr.size), hF2.cell hbr (by simpa using hwg), (hF2.keep D (Array.getElem?_eq_some_iff.1 hKr).1 (by simpa using hDg)).trans hKr⟩
    | true =>
      obtain ⟨y, hy1, hy2, hy3⟩ := Hn.out.1 rfl
      have a2 := hL3.nodes.c2 x hxN
      rw [hy2] at a2
      have d1 := hL3.hd.cell 1
      simp only [List.getElem?_cons_zero, List.getElem?_cons_succ] at d1
      have hx2 : (x : Int) < N := by omega
      go_wp2
      go_roundw
      case rel => exact ⟨k + 1, y, hy3, Lib.hid hy1, rfl, hown3, hB3, fun q e => by cases e; exact hq3⟩
      case measure => simp [slLen]; omega

end Go.Proofs.Ytoppjjgecgbbkaa
