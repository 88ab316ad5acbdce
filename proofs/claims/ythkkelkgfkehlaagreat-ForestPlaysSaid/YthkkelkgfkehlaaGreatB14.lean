/- forest: rows of slots; whether two are equal. -/
import Derived.Test.YthkkelkgfkehlaaGreatB13
import Derived.Test.YthkkelkgfkehlaaGreatB8
import Derived.Test.YthkkelkgfkehlaaGreatB1
import Derived.Test.YthkkelkgfkehlaaGreatB2
/- forest: New. -/
namespace Go.Proofs.YthkkelkgfkehlaaGreat
open Go.RowKit Classical
set_option maxRecDepth 10000
set_option maxHeartbeats 1600000

theorem fnew_bad (v e : Int) (w : World) (hn : ¬ (0 ≤ v ∧ v ≤ 4096 ∧ 0 ≤ e ∧ e ≤ 16384)) :
    Calls Tryz.prog 5 #[.int .i64 v, .int .i64 e] w fun r w' => r = .returned (.tuple #[.pointer none, .int .i64 2]) ∧ w' = w := by
  by_cases h1 : v < 0
  · clear hn
    go_enter Tryz.func5, Tryz.ntmps5
    go_wp2
    go_ret2
    exact ⟨rfl, rfl⟩
  · have d1 : decide (v < 0) = false := decide_eq_false h1
    by_cases h2 : v > 4096
    · clear hn
      go_enter Tryz.func5, Tryz.ntmps5
      go_wp2
      go_ret2
      exact ⟨rfl, rfl⟩
    · have d2 : decide (v > 4096) = false := decide_eq_false h2
      by_cases h3 : e < 0
      · clear hn
        go_enter Tryz.func5, Tryz.ntmps5
        go_wp2
        go_ret2
        exact ⟨rfl, rfl⟩
      · have d3 : decide (e < 0) = false := decide_eq_false h3
        have h4 : e > 16384 := by omega
        clear hn
        go_enter Tryz.func5, Tryz.ntmps5
        go_wp2
        go_ret2
        exact ⟨rfl, rfl⟩

def vkey (S v : Nat) : Nat → Int := fun u => if S ≤ u ∧ u < S + v then 9223372036854775807 else 0
theorem vkey_zero (S : Nat) : vkey S 0 = fun _ => 0 := by funext u; unfold vkey; rw [if_neg (by omega)]
theorem vkey_succ {S V v : Nat} (h : v < V) : setKey (S + V) (vkey S v) ((S : Int) + v) 9223372036854775807 = vkey S (v + 1) := by
  funext u
  unfold setKey vkey
  by_cases hu : u = ((S : Int) + v).toNat
  · rw [if_pos ⟨by simp [inV]; omega, hu⟩, if_pos (by omega)]
  · rw [if_neg (fun h => hu h.2)]
    by_cases h2 : S ≤ u ∧ u < S + v
    · rw [if_pos h2, if_pos (by omega)]
    · rw [if_neg h2, if_neg (by omega)]

theorem fnew_w (V S : Nat) (w : World) (hV : V ≤ 4096) (hS : S ≤ 16384) :
    Calls Tryz.prog 5 #[.int .i64 V, .int .i64 S] w fun r w' => ∃ pf, r = .returned (.tuple #[fptr pf, .int .i64 0]) ∧ ∃ L, FAt w' pf S V (fun _ => none) L ∧ Fr [] w w' ∧ ∀ q ∈ L, w.heap.size ≤ q := by
  have d1 : decide ((V : Int) < 0) = false := decide_eq_false (by omega)
  have d2 : decide ((V : Int) > 4096) = false := decide_eq_false (by omega)
  have d3 : decide ((S : Int) < 0) = false := decide_eq_false (by omega)
  have d4 : decide ((S : Int) > 16384) = false := decide_eq_false (by omega)
  have d2' : ¬ 4096 < V := by omega
  have d4' : ¬ 16384 < S := by omega
  have hw1 : IntKind.i64.wrap ((S : Int) + V) = ((S + V : Nat) : Int) := by rw [show (S : Int) + V = ((S + V : Nat) : Int) by omega]; exact IntWalk.i64_in _ (by omega)
  have hmk : ∀ W : World, (Instr.makeMap 57 none).run Tryz.prog W = .ok (.map (some W.heap.size)) (W.alloc (.map #[] 0)) := fun W => by kernel_rfl
  have HL := Lib.hid (new_w (S + V) w (by omega))
  have HHn := Lib.hid (fun (w' : World) => hnew_w S w' (by omega))
  go_enter Tryz.func5, Tryz.ntmps5
  go_wp2_with (go_at_call 21; refine HL.out.mono ?_; rintro _ w1 ⟨pl, g, rfl, hL1, hF1, hp1, hg1⟩)
  have H1 := Lib.hid (And.intro hL1 (And.intro hF1 (And.intro hp1 hg1)))
  clear hL1 hF1 hp1 hg1 HL
  go_loopw [35] (fun x wr => ∃ v : Nat, v ≤ V ∧ x = .int .i64 v ∧ Hid (LM wr pl g (S + V) (fun _ _ => False) (vkey S v) ∧ Fr [] w wr)) (fun x _ => V - (intOf x).toNat)
  case atStart => exact ⟨0, Nat.zero_le _, rfl, Lib.hid ⟨by rw [vkey_zero]; exact H1.out.1, H1.out.2.1⟩⟩
  case round =>
    obtain ⟨v, hv, rfl, HR⟩ := hrel
    by_cases hlt : v < V
    · have hlt' : (v : Int) < V := by omega
      have SW := set_w HR.out.1 ((S : Int) + v) 9223372036854775807
      rw [vkey_succ hlt] at SW
      have HS := Lib.hid SW; clear SW
      have hw2 : IntKind.i64.wrap ((S : Int) + v) = (S : Int) + v := IntWalk.i64_in _ (by omega)
      have hw3 : IntKind.i64.wrap ((v : Int) + 1) = ((v + 1 : Nat) : Int) := by rw [show (v : Int) + 1 = ((v + 1 : Nat) : Int) by omega]; exact IntWalk.i64_in _ (by omega)
      go_wp2_with (go_at_call 22; refine HS.out.mono ?_; rintro _ w2 ⟨rfl, hL2, hF2⟩)
      go_roundw
      case rel => exact ⟨v + 1, by omega, rfl, Lib.hid ⟨hL2, HR.out.2.trans hF2 (fun q hq => .inr (by simp at hq; subst hq; exact H1.out.2.2.2))⟩⟩
      case measure => simp [intOf]; omega
    · obtain rfl : v = V := by omega
      have HN := Lib.hid (HHn.out wr)
      go_wp2_with (go_at_call 23; refine HN.out.mono ?_; rintro _ w3 ⟨ph, rfl, l, hH3, hF3, hN3⟩)
      go_ret2
      have hn : ∀ t, ¬ isTree (fun _ => none) t := by rintro t ⟨_, _, _, e, _⟩; cases e
      have hc0 : cntT S (isTree fun _ => none) = 0 := by rw [cntT_congr (T' := fun _ => False) (fun t => ⟨hn t, False.elim⟩), cntT_none]
      have hb := Blk.new (w3.alloc (.map #[] 0)) [.int .i64 v, .int .i64 S, fptr pl, hptr ph, .map (some w3.heap.size), .int .i64 0] 59
      have hm := IMap.made w3 Tryz.prog 3 .i64 okA
      have hf : Fr [] wr ((w3.alloc (.map #[] 0)).alloc (.cells [.int .i64 v, .int .i64 S, fptr pl, hptr ph, .map (some w3.heap.size), .int .i64 0].toArray 59)) := (hF3.alloc _).alloc _
      have hl := (LG.lts HR.out.1)
      have hsz := hF3.size
      have hsr := HR.out.2.size
      have hw1s := H1.out.2.1.size
      have hf2 : Fr [] w3 ((w3.alloc (.map #[] 0)).alloc (.cells [.int .i64 v, .int .i64 S, fptr pl, hptr ph, .map (some w3.heap.size), .int .i64 0].toArray 59)) := ((Fr.refl _ _).alloc _).alloc _
      refine ⟨w3.heap.size + 1, rfl, _, ⟨pl, g, ph, w3.heap.size, l, vkey S v, 0, ⟨?_, ?_, ?_, GW.no S v, ⟨fun _ _ _ _ h => (by cases h), fun u hu => ?_⟩, ?_, hS, hV, ?_, ?_, ?_, ?_, ?_⟩, ?_, ?_, rfl⟩, HR.out.2.trans hf (by simp), ?_⟩
      · rw [hc0]; simpa using hb
      · rw [te_none]; exact LG.fr HR.out.1 hf (by simp) (by simp)
      · have e : mapG (fun _ => none) (isTree fun _ => none) = fun _ => none := by funext k; unfold mapG; split <;> rfl
        rw [e]
        exact (hm.same (Below.heap_alloc _ _ _ (by simp)))
      · unfold vkey; rw [if_pos (by omega)]
      · rw [cntT_congr (T' := fun _ => False) (fun t => by simp), cntT_none]
      · have := hl.1; omega
      · have := hl.2.1; omega
      · omega
      · have := hl.1; omega
      · have := hl.2.1; omega
      · exact hH3.fr hf2 (by simp)
      · intro b hb
        have h1 := hN3 b hb
        have h2 := hH3.lt b hb
        have := hl.1
        have := hl.2.1
        omega
      · intro q hq
        simp only [List.mem_cons] at hq
        have h1 := H1.out.2.2
        rcases hq with rfl | rfl | rfl | rfl | hq
        · omega
        · exact h1.1
        · exact h1.2
        · omega
        · have := hN3 q hq; omega
end Go.Proofs.YthkkelkgfkehlaaGreat

/- forest: its contracts, for the laws. -/
namespace Go.Proofs.YthkkelkgfkehlaaGreat
open Go.RowKit Classical
set_option maxRecDepth 10000
set_option maxHeartbeats 800000

/-- A forest that was made since the call began. -/
structure FO (w wr : World) (pf S V : Nat) (G : EMap) (L : List Nat) : Prop where
  f : FAt wr pf S V G L
  fr : Fr [] w wr
  new : ∀ q ∈ L, w.heap.size ≤ q
/-- It has moved on. -/
def FM (w wr w' : World) (pf S V : Nat) (G : EMap) (L : List Nat) : Prop := ∃ L', FO w w' pf S V G L' ∧ Fr L wr w' ∧ ∀ q ∈ L', q ∈ L ∨ wr.heap.size ≤ q

section
variable {w wr w' : World} {pf S V : Nat} {G G' : EMap} {L L' : List Nat}
theorem FO.next (h : FO w wr pf S V G L) (h1 : FAt w' pf S V G' L') (h2 : Fr L wr w') (h3 : ∀ q ∈ L', q ∈ L ∨ wr.heap.size ≤ q) : FM w wr w' pf S V G' L :=
  ⟨L', ⟨h1, h.fr.trans h2 (fun q hq => .inr (h.new q hq)), fun q hq => (h3 q hq).elim (h.new q) (fun e => Nat.le_trans h.fr.size e)⟩, h2, h3⟩
theorem FO.keep (h : FO w wr pf S V G L) {X : List Nat} (hf : Fr X wr w') (hx : ∀ b ∈ L, b ∉ X) (hw : ∀ b ∈ X, w.heap.size ≤ b) : FO w w' pf S V G L :=
  ⟨h.f.fr hf hx, h.fr.trans hf (fun q hq => .inr (hw q hq)), h.new⟩
theorem FO.keep0 (h : FO w wr pf S V G L) (hf : Fr [] wr w') : FO w w' pf S V G L := h.keep hf (by simp) (by simp)
theorem FO.below (h : FO w wr pf S V G L) : Below w.heap.size w wr := h.fr.below (by simp)
theorem FO.lt (h : FO w wr pf S V G L) : ∀ b ∈ L, b < wr.heap.size := h.f.lt
theorem FO.self (h : FO w wr pf S V G L) (h2 : Fr [] wr w') : FM w wr w' pf S V G L := ⟨L, h.keep0 h2, h2.mono (by simp), fun _ hq => .inl hq⟩
theorem FAt.gw (h : FAt wr pf S V G L) : GW S V G ∧ S ≤ 16384 ∧ V ≤ 4096 := by
  obtain ⟨pl, g, ph, mb, l, key, n, h1, _⟩ := h; exact ⟨h1.gw, h1.leS, h1.leV⟩

theorem wf_int {x : Int} (h : -9223372036854775808 ≤ x ∧ x ≤ 9223372036854775807) : (Lit.int .i64 x).wf = true := by
  show (decide ((-9223372036854775808 : Int) ≤ x) && decide (x ≤ 9223372036854775807)) = true
  simp; omega

theorem fo_add (h : FO w wr pf S V G L) (s a b x : Int) (hx : -9223372036854775808 ≤ x ∧ x ≤ 9223372036854775807) :
    Calls Tryz.prog 7 #[fptr pf, .int .i64 s, .int .i64 a, .int .i64 b, .int .i64 x] wr fun e w' => e = .returned (.int .i64 (addCode S V G s a b)) ∧ FM w wr w' pf S V (addG S V G s a b x) L := by
  by_cases h1 : inV S s = true ∧ inV V a = true ∧ inV V b = true
  · obtain ⟨s, rfl, hs⟩ := inV_nat h1.1
    obtain ⟨a, rfl, ha⟩ := inV_nat h1.2.1
    obtain ⟨b, rfl, hb⟩ := inV_nat h1.2.2
    by_cases hab : a = b
    · have e1 : addCode S V G s a b = 9 := by unfold addCode; rw [if_pos h1, if_pos (by omega)]
      have e2 : addG S V G s a b x = G := by unfold addG; rw [e1, if_neg (by omega)]
      rw [e1, e2]
      obtain ⟨pl, g, ph, mb, l, key, n, hB, _⟩ := id h.f
      refine (fadd_no hB hs ha hb x (.inl hab)).mono ?_
      rintro e w' ⟨rfl, hf⟩
      exact ⟨by rw [if_pos hab], h.self hf⟩
    · cases hg : G s with
      | some e =>
        have e1 : addCode S V G s a b = 6 := by unfold addCode; rw [if_pos h1, if_neg (by omega), Int.toNat_natCast, hg]; rfl
        have e2 : addG S V G s a b x = G := by unfold addG; rw [e1, if_neg (by omega)]
        rw [e1, e2]
        obtain ⟨pl, g, ph, mb, l, key, n, hB, _⟩ := id h.f
        refine (fadd_no hB hs ha hb x (.inr ⟨hab, by rw [hg]; rfl⟩)).mono ?_
        rintro e w' ⟨rfl, hf⟩
        exact ⟨by rw [if_neg hab], h.self hf⟩
      | none =>
        have e1 : addCode S V G s a b = 0 := by unfold addCode; rw [if_pos h1, if_neg (by omega), Int.toNat_natCast, hg]; rfl
        have e2 : addG S V G s a b x = updG G s (some (a, b, x)) := by unfold addG; rw [e1, if_pos rfl]; simp
        rw [e1, e2]
        refine (fadd_yes h.f hs ha hb hab hg x hx).mono ?_
        rintro e w' ⟨rfl, L', h2, h3, h4⟩
        exact ⟨rfl, h.next h2 h3 h4⟩
  · have e1 : addCode S V G s a b = 3 := by unfold addCode; rw [if_neg h1]
    have e2 : addG S V G s a b x = G := by unfold addG; rw [e1, if_neg (by omega)]
    rw [e1, e2]
    obtain ⟨pl, g, ph, mb, l, key, n, hB, _⟩ := id h.f
    refine (fadd_bad hB s a b x h1).mono ?_
    rintro e w' ⟨rfl, rfl⟩
    exact ⟨rfl, h.self (Fr.refl _ _)⟩
theorem fo_exp (h : FO w wr pf S V G L) : Calls Tryz.prog 9 #[fptr pf] wr fun e w' => e = .returned (.tuple #[.int .i64 ((fstG G).getD 0 : Nat), .bool (fstG G).isSome]) ∧ FM w wr w' pf S V (popG G) L := by
  refine (fexp_w h.f).mono ?_
  rintro e w' ⟨rfl, L', h2, h3, h4⟩
  exact ⟨rfl, h.next h2 h3 h4⟩
/-- A question turns the forest's own blocks at most. -/
theorem fo_ask {pl g ph mb n : Nat} {l : List Nat} {key : Nat → Int} (h : FO w wr pf S V G (pf :: pl :: g :: mb :: l)) (hH : HeapAt wr ph S (qOf G) n l) (hD : ∀ b ∈ l, b ≠ pf ∧ b ≠ pl ∧ b ≠ g ∧ b ≠ mb) (hB : FB w' pf pl g ph mb S V G (isTree G) key n) (hF : Fr [g] wr w') : FM w wr w' pf S V G (pf :: pl :: g :: mb :: l) :=
  h.next ⟨pl, g, ph, mb, l, key, n, hB, hH.fr hF (fun b hb hm => by simp at hm; exact (hD b hb).2.2.1 hm), hD, rfl⟩ (hF.mono (fun q hq => .inl (by simp at hq; simp [hq]))) (fun q hq => .inl hq)
theorem fo_conn (h : FO w wr pf S V G L) (a b : Int) : Calls Tryz.prog 38 #[fptr pf, .int .i64 a, .int .i64 b] wr fun e w' => e = .returned (.bool (connG V G a b)) ∧ FM w wr w' pf S V G L := by
  obtain ⟨pl, g, ph, mb, l, key, n, hB, hH, hD, rfl⟩ := id h.f
  refine (fconn_w hB a b).mono ?_
  rintro e w' ⟨rfl, h2, h3⟩
  exact ⟨rfl, fo_ask h hH hD h2 h3⟩
theorem fo_size (h : FO w wr pf S V G L) (a : Int) : Calls Tryz.prog 20 #[fptr pf, .int .i64 a] wr fun e w' => e = .returned (.int .i64 (sizeG V G a)) ∧ FM w wr w' pf S V G L := by
  obtain ⟨pl, g, ph, mb, l, key, n, hB, hH, hD, rfl⟩ := id h.f
  refine (fsize_w hB a).mono ?_
  rintro e w' ⟨rfl, h2, h3⟩
  exact ⟨rfl, fo_ask h hH hD h2 h3⟩
theorem fo_until (h : FO w wr pf S V G L) (a b : Int) : Calls Tryz.prog 17 #[fptr pf, .int .i64 a, .int .i64 b] wr fun e w' => e = .returned (.tuple #[.int .i64 (untilV V G a b), .bool (untilB V G a b)]) ∧ FM w wr w' pf S V G L := by
  obtain ⟨pl, g, ph, mb, l, key, n, hB, hH, hD, rfl⟩ := id h.f
  refine (funtil_w hB a b).mono ?_
  rintro e w' ⟨rfl, h2, h3⟩
  exact ⟨rfl, fo_ask h hH hD h2 h3⟩
theorem fo_tree (h : FO w wr pf S V G L) {s : Int} (hs : -9223372036854775808 ≤ s ∧ s ≤ 9223372036854775807) : Calls Tryz.prog 18 #[fptr pf, .int .i64 s] wr fun e w' => e = .returned (.bool (treeG G s)) ∧ FO w w' pf S V G L ∧ Fr [] wr w' := by
  obtain ⟨pl, g, ph, mb, l, key, n, hB, _⟩ := id h.f
  refine (ftree_w hB (wf_int hs)).mono ?_
  rintro e w' ⟨rfl, _, h3⟩
  exact ⟨rfl, h.keep0 h3, h3⟩
/-- How many components there are, and edges. -/
noncomputable def compG (V : Nat) (G : EMap) : Nat := cntT V (Lead G fun _ => True)
noncomputable def lenG (S : Nat) (G : EMap) : Nat := cntT S fun s => (G s).isSome = true
theorem comp_tree (hG : GW S V G) : compG V G + cntT S (isTree G) = V := by
  have h1 := lead_tree hG
  have h2 : compG V G = cntT V (Lead G (isTree G)) := by
    unfold compG
    exact cntT_congr fun v => by unfold Lead; simp only [cx_tree hG]
  omega
theorem fo_count (h : FO w wr pf S V G L) : Calls Tryz.prog 19 #[fptr pf] wr fun e w' => e = .returned (.int .i64 (compG V G)) ∧ FO w w' pf S V G L ∧ Fr [] wr w' := by
  obtain ⟨pl, g, ph, mb, l, key, n, hB, _⟩ := id h.f
  have e1 := comp_tree hB.gw
  refine (fcount_w hB).mono ?_
  rintro e w' ⟨rfl, h3⟩
  refine ⟨?_, h.keep0 h3, h3⟩
  rw [show (V : Int) - cntT S (isTree G) = compG V G by omega]
theorem fo_len (h : FO w wr pf S V G L) : Calls Tryz.prog 42 #[fptr pf] wr fun e w' => e = .returned (.int .i64 (lenG S G)) ∧ FO w w' pf S V G L ∧ Fr [] wr w' := by
  obtain ⟨pl, g, ph, mb, l, key, n, hB, _⟩ := id h.f
  have e1 : lenG S G = n := hB.cn.symm
  rw [e1]
  refine (flen_w hB).mono ?_
  rintro e w' ⟨rfl, h3⟩
  exact ⟨rfl, h.keep0 h3, h3⟩
theorem fo_edges (h : FO w wr pf S V G L) : Calls Tryz.prog 15 #[fptr pf] wr fun e w' => ∃ v, e = .returned v ∧ w'.ownsRow 0 3 1 v (treeL S G).length (encT (treeL S G)) ∧ (∀ q, v.ownBlock = some q → wr.heap.size ≤ q) ∧ FO w w' pf S V G L ∧ Fr [] wr w' := by
  obtain ⟨pl, g, ph, mb, l, key, n, hB, _⟩ := id h.f
  refine (fedges_w hB).mono ?_
  rintro e w' ⟨v, rfl, h1, h2, h3⟩
  exact ⟨v, rfl, h1, h2, h.keep0 h3, h3⟩
theorem fo_new (V S : Nat) (w wr : World) (hV : V ≤ 4096) (hS : S ≤ 16384) (hf : Fr [] w wr) :
    Calls Tryz.prog 5 #[.int .i64 V, .int .i64 S] wr fun r w' => ∃ pf, r = .returned (.tuple #[fptr pf, .int .i64 0]) ∧ ∃ L, FO w w' pf S V (fun _ => none) L ∧ Fr [] wr w' ∧ ∀ q ∈ L, wr.heap.size ≤ q := by
  refine (fnew_w V S wr hV hS).mono ?_
  rintro r w' ⟨pf, rfl, L, h1, h2, h3⟩
  exact ⟨pf, rfl, L, ⟨h1, hf.trans' h2, fun q hq => Nat.le_trans hf.size (h3 q hq)⟩, h2, h3⟩
end
end Go.Proofs.YthkkelkgfkehlaaGreat

/- forest: the example of the chapter. -/
namespace Go.Proofs.YthkkelkgfkehlaaGreat
open Go.RowKit Classical
set_option maxRecDepth 10000
set_option maxHeartbeats 800000

theorem Cx.inv {G : EMap} {U : Nat → Prop} (C : Nat → Prop) (h : ∀ s a b x, U s → G s = some (a, b, x) → (C a ↔ C b)) {p q : Nat} (hc : Cx G U p q) : C p ↔ C q := by
  induction hc with
  | refl => exact Iff.rfl
  | step s x _ h1 h2 ih =>
    rcases h2 with h2 | h2
    · exact ih.trans (h _ _ _ _ h1 h2)
    · exact ih.trans (h _ _ _ _ h1 h2).symm

def exG : EMap := fun t => if t = 0 then some (0, 1, 10) else if t = 1 then some (1, 2, 14) else if t = 2 then some (0, 2, 16) else none
theorem exG_cases {s a b : Nat} {x : Int} (h : exG s = some (a, b, x)) : (s = 0 ∧ a = 0 ∧ b = 1 ∧ x = 10) ∨ (s = 1 ∧ a = 1 ∧ b = 2 ∧ x = 14) ∨ (s = 2 ∧ a = 0 ∧ b = 2 ∧ x = 16) := by
  unfold exG at h
  by_cases h0 : s = 0
  · rw [if_pos h0] at h; simp at h; omega
  · rw [if_neg h0] at h
    by_cases h1 : s = 1
    · rw [if_pos h1] at h; simp at h; omega
    · rw [if_neg h1] at h
      by_cases h2 : s = 2
      · rw [if_pos h2] at h; simp at h; omega
      · rw [if_neg h2] at h; cases h
theorem ex0 : exG 0 = some (0, 1, 10) := rfl
theorem ex1 : exG 1 = some (1, 2, 14) := rfl
theorem ex2 : exG 2 = some (0, 2, 16) := rfl
theorem exT0 : ¬ isTree exG 0 := by
  rintro ⟨a, b, x, h, hn⟩
  rw [ex0] at h; simp at h; obtain ⟨rfl, rfl, rfl⟩ := h
  refine hn ((Cx.edge (s := 2) ⟨0, 2, 16, ex2, .inl (by omega)⟩ ex2).trans (Cx.edge' (s := 1) ⟨1, 2, 14, ex1, .inl (by omega)⟩ ex1))
theorem exT1 : isTree exG 1 := by
  refine ⟨1, 2, 14, ex1, fun hc => ?_⟩
  have := Cx.inv (fun v => v = 0 ∨ v = 2) (fun s a b x hU hg => by
    obtain ⟨a', b', y, h1, h2⟩ := hU
    have := exG_cases hg
    have := exG_cases h1
    unfold bef at h2
    omega) hc
  omega
theorem exT2 : isTree exG 2 := by
  refine ⟨0, 2, 16, ex2, fun hc => ?_⟩
  have := Cx.inv (fun v => v = 0) (fun s a b x hU hg => by
    obtain ⟨a', b', y, h1, h2⟩ := hU
    have := exG_cases hg
    have := exG_cases h1
    unfold bef at h2
    omega) hc
  omega
theorem exT3 {s : Nat} (h : 3 ≤ s) : ¬ isTree exG s := by
  rintro ⟨a, b, x, h1, _⟩
  have := exG_cases h1
  omega
theorem exGW : GW 5 4 exG := by
  refine ⟨fun s e h => ?_, fun s a b x h => ?_, fun s a b x h => ?_⟩
  · obtain ⟨a, b, x⟩ := e
    have := exG_cases h; omega
  · have := exG_cases h; omega
  · have := exG_cases h; omega
theorem exCount : compG 4 exG = 2 := by
  have h := comp_tree exGW
  have h2 : cntT 5 (isTree exG) = 2 := by
    unfold cntT
    rw [show List.range 5 = [0, 1, 2, 3, 4] from rfl]
    simp [exT0, exT1, exT2, exT3 (s := 3) (by omega), exT3 (s := 4) (by omega)]
  omega
theorem ex02 : Cx exG (fun _ => True) 0 2 := Cx.edge (s := 2) trivial ex2
theorem ex01 : Cx exG (fun _ => True) 0 1 := Cx.edge (s := 0) trivial ex0
theorem ex03 : ¬ Cx exG (fun _ => True) 0 3 := fun hc => by
  have := Cx.inv (fun v => v = 3) (fun s a b x hU hg => by have := exG_cases hg; omega) hc
  omega
theorem exSize : sizeG 4 exG 0 = 3 := by
  have : cxs 4 exG (fun _ => True) 0 = 3 := by
    unfold cxs cntT
    rw [show List.range 4 = [0, 1, 2, 3] from rfl]
    simp [ex01, ex02, ex03, Cx.refl]
  unfold sizeG
  rw [if_pos (by decide), Int.toNat_zero, this]; rfl
theorem exUntil : untilB 4 exG 0 1 = true ∧ untilV 4 exG 0 1 = 14 := by
  have h : untilB 4 exG 0 1 = true := by
    have : Cx exG (fun _ => True) (0 : Int).toNat (1 : Int).toNat := ex01
    unfold untilB connG
    rw [decide_eq_true this]; decide
  refine ⟨h, ?_⟩
  unfold untilV
  rw [if_pos h]
  refine untilI_eq ⟨(Cx.edge (s := 2) ⟨0, 2, 16, ex2, by omega⟩ ex2).trans (Cx.edge' (s := 1) ⟨1, 2, 14, ex1, by omega⟩ ex1), fun hc => ?_⟩
  have := Cx.inv (fun v => v = 0 ∨ v = 2) (fun s a b x hU hg => by
    obtain ⟨a', b', y, h1, h2⟩ := hU
    have := exG_cases hg
    have := exG_cases h1
    omega) hc
  have e0 : (0 : Int).toNat = 0 := rfl
  have e1 : (1 : Int).toNat = 1 := rfl
  rw [e0, e1] at this
  omega
theorem exTree : treeG exG 0 = false := by
  unfold treeG
  have : ¬ isTree exG (0 : Int).toNat := exT0
  exact decide_eq_false fun h => this h.2

def exA : EMap := updG (fun _ => none) 0 (some (0, 1, 10))
def exB : EMap := updG exA 1 (some (1, 2, 14))
theorem exAdd1 : addCode 5 4 (fun _ => none) 0 0 1 = 0 ∧ addG 5 4 (fun _ => none) 0 0 1 10 = exA := by
  have h : addCode 5 4 (fun _ => none) 0 0 1 = 0 := by unfold addCode; rw [if_pos (by decide), if_neg (by decide)]; rfl
  exact ⟨h, by unfold addG; rw [if_pos h]; rfl⟩
theorem exAdd2 : addCode 5 4 exA 1 1 2 = 0 ∧ addG 5 4 exA 1 1 2 14 = exB := by
  have h : addCode 5 4 exA 1 1 2 = 0 := by unfold addCode; rw [if_pos (by decide), if_neg (by decide)]; rfl
  exact ⟨h, by unfold addG; rw [if_pos h]; rfl⟩
theorem exAdd3 : addCode 5 4 exB 2 0 2 = 0 ∧ addG 5 4 exB 2 0 2 16 = exG := by
  have h : addCode 5 4 exB 2 0 2 = 0 := by unfold addCode; rw [if_pos (by decide), if_neg (by decide)]; rfl
  refine ⟨h, ?_⟩
  unfold addG
  rw [if_pos h]
  funext t
  unfold exB exA updG exG
  show (if t = 2 then _ else if t = 1 then _ else if t = 0 then _ else _) = _
  by_cases h2 : t = 2
  · subst h2; rfl
  · by_cases h1 : t = 1
    · subst h1; rfl
    · by_cases h0 : t = 0
      · subst h0; rfl
      · simp [h0, h1, h2]

theorem works_w (w : World) : Calls Tryz.prog 4 #[] w fun e w' => e = .returned (.bool true) ∧ Fr [] w w' := by
  have HN := Lib.hid (fo_new 4 5 w w (by omega) (by omega) (Fr.refl _ _))
  go_enter Tryz.func4, Tryz.ntmps4
  go_wp2_with fail
  refine HN.out.mono ?_
  rintro _ w1 ⟨pf, rfl, L, hO1, _, _⟩
  have A1 := fo_add hO1 0 0 1 10 (by omega)
  rw [exAdd1.1, exAdd1.2] at A1
  have A1 := Lib.hid A1
  clear hO1 HN
  go_wp2_with fail
  refine A1.out.mono ?_
  rintro _ w2 ⟨rfl, L2, hO2, _⟩
  have A2 := fo_add hO2 1 1 2 14 (by omega)
  rw [exAdd2.1, exAdd2.2] at A2
  have A2 := Lib.hid A2
  clear hO2 A1
  go_wp2_with fail
  refine A2.out.mono ?_
  rintro _ w3 ⟨rfl, L3, hO3, _⟩
  have A3 := fo_add hO3 2 0 2 16 (by omega)
  rw [exAdd3.1, exAdd3.2] at A3
  have A3 := Lib.hid A3
  clear hO3 A2
  go_wp2_with fail
  refine A3.out.mono ?_
  rintro _ w4 ⟨rfl, L4, hO4, _⟩
  have A4 := fo_until hO4 0 1
  rw [exUntil.1, exUntil.2] at A4
  have A4 := Lib.hid A4
  clear hO4 A3
  go_wp2_with fail
  refine A4.out.mono ?_
  rintro _ w5 ⟨rfl, L5, hO5, _⟩
  have A5 := fo_tree hO5 (s := 0) (by omega)
  rw [exTree] at A5
  have A5 := Lib.hid A5
  clear hO5 A4
  go_wp2_with fail
  refine A5.out.mono ?_
  rintro _ w6 ⟨rfl, hO6, _⟩
  have A6 := fo_count hO6
  rw [exCount] at A6
  have A6 := Lib.hid A6
  clear hO6 A5
  go_wp2_with fail
  refine A6.out.mono ?_
  rintro _ w7 ⟨rfl, hO7, _⟩
  have A7 := fo_size hO7 0
  rw [exSize] at A7
  have A7 := Lib.hid A7
  clear hO7 A6
  go_wp2_with fail
  refine A7.out.mono ?_
  rintro _ w8 ⟨rfl, L8, hO8, _⟩
  have H8 := Lib.hid hO8; clear hO8
  go_wp2
  go_ret
  exact ⟨rfl, H8.out.fr⟩
end Go.Proofs.YthkkelkgfkehlaaGreat

/- forest: how the laws' edges read, rows of Booleans, small. -/
namespace Go.Proofs.YthkkelkgfkehlaaGreat
open Go.RowKit Classical
set_option maxRecDepth 10000
set_option maxHeartbeats 800000

/-- A slice of len edges reads z: two vertices, a time. -/
def EdgesF (w : World) (a : Option Addr) (len : Nat) (z : Nat → Int × Int × Int) : Prop :=
  len ≤ 9223372036854775807 ∧ ∀ i, i < len → ∃ b off, a = some ⟨b, off, none⟩ ∧ b < w.heap.size ∧ w.cell? ⟨b, off + i * 3, none⟩ = some (.int .i64 (z i).1) ∧ w.cell? ⟨b, off + i * 3 + 1, none⟩ = some (.int .i64 (z i).2.1) ∧
    w.cell? ⟨b, off + i * 3 + 2, none⟩ = some (.int .i64 (z i).2.2) ∧ -9223372036854775808 ≤ (z i).2.2 ∧ (z i).2.2 ≤ 9223372036854775807
theorem EdgesF.below {w w' : World} {a : Option Addr} {len : Nat} {z : Nat → Int × Int × Int} (h : EdgesF w a len z) (hb : Below w.heap.size w w') : EdgesF w' a len z := by
  refine ⟨h.1, fun i hi => ?_⟩
  obtain ⟨b, off, rfl, hlt, h1, h2, h3, h4⟩ := h.2 i hi
  exact ⟨b, off, rfl, Nat.lt_of_lt_of_le hlt hb.size, (hb.cell (p := ⟨b, off + i * 3, none⟩) hlt).trans h1, (hb.cell (p := ⟨b, off + i * 3 + 1, none⟩) hlt).trans h2, (hb.cell (p := ⟨b, off + i * 3 + 2, none⟩) hlt).trans h3, h4⟩
theorem EdgesF.fr {w w' : World} {a : Option Addr} {len : Nat} {z : Nat → Int × Int × Int} (h : EdgesF w a len z) (hb : Fr [] w w') : EdgesF w' a len z := h.below (hb.below (by simp))
/-- A row of Booleans. -/
def bRow (n : Nat) (f : Nat → Bool) : List Value := (List.range n).map fun i => .bool (f i)
def updT (f : Nat → Bool) (i : Nat) (x : Bool) : Nat → Bool := fun k => if k = i then x else f k
theorem updT_same (f : Nat → Bool) (i : Nat) (x : Bool) : updT f i x i = x := by simp [updT]
theorem updT_other {f : Nat → Bool} {i k : Nat} {x : Bool} (h : k ≠ i) : updT f i x k = f k := by simp [updT, h]
theorem bRow_len (n : Nat) (f : Nat → Bool) : (bRow n f).length = n := by simp [bRow]
theorem bRow_at {n : Nat} (f : Nat → Bool) {i : Nat} (h : i < n) : (bRow n f)[i]? = some (.bool (f i)) := by simp [bRow, h]
theorem bRow_set {n : Nat} (f : Nat → Bool) (i : Nat) (x : Bool) : (bRow n f).set i (.bool x) = bRow n (updT f i x) := by
  refine List.ext_getElem? fun k => ?_
  rw [List.getElem?_set]
  by_cases hk : i = k
  · subst hk
    by_cases hl : i < n
    · rw [if_pos rfl, if_pos (by rw [bRow_len]; exact hl), bRow_at _ hl, updT_same]
    · rw [if_pos rfl, if_neg (by rw [bRow_len]; exact hl), List.getElem?_eq_none (by rw [bRow_len]; omega)]
  · rw [if_neg hk]
    by_cases hl : k < n
    · rw [bRow_at _ hl, bRow_at _ hl, updT_other (fun e => hk e.symm)]
    · rw [List.getElem?_eq_none (by rw [bRow_len]; omega), List.getElem?_eq_none (by rw [bRow_len]; omega)]
theorem bRow_congr {n : Nat} {f f' : Nat → Bool} (h : ∀ i, i < n → f i = f' i) : bRow n f = bRow n f' := by
  unfold bRow
  exact List.map_congr_left fun i hi => by rw [h i (List.mem_range.1 hi)]
theorem Tryz.info4 : (Tryz.prog.info? 4).map (fun i => (i.zero, i.size, i.bytes)) = some (some (.bool false), 1, 1) := by kernel_rfl
theorem made_bools (n : Nat) : madeCells (Value.bool false).cells n = (bRow n fun _ => false).toArray := by
  apply Array.ext
  · simp [madeCells, bRow]
  · intro i h1 h2
    simp [madeCells, bRow, Value.cells, Nat.mod_one]
theorem run_makeB (n : Nat) (w : World) (hn : n ≤ 1048576) : (Instr.makeSlice 99 (.int .i64 n) (.int .i64 n)).run Tryz.prog w = .ok (.slice (some ⟨w.heap.size, 0, none⟩) n n) (w.alloc (.cells (bRow n fun _ => false).toArray 4)) := by
  obtain ⟨i0, hi, hz0, hz1, hz2⟩ := info_parts Tryz.info4
  have h := run_make (P := Tryz.prog) w 99 4 i0 (.bool false) Tryz.underlying99 hi hz0 .i64 .i64 n n (by omega) (by omega) (by rw [hz2]; omega) (by omega)
  rw [hz1] at h
  simp only [Int.toNat_natCast, Nat.mul_one] at h
  rw [made_bools] at h
  exact h

def smallF (n : Int) (len : Nat) : Bool := decide (0 ≤ n) && (decide (n ≤ 30) && decide (len ≤ 80))
end Go.Proofs.YthkkelkgfkehlaaGreat

/- forest: the forest that the laws grow. -/
namespace Go.Proofs.YthkkelkgfkehlaaGreat
open Go.RowKit Classical
set_option maxRecDepth 10000
set_option maxHeartbeats 1600000

def okE (V : Nat) (e : Int × Int × Int) : Bool := inV V e.1 && inV V e.2.1 && !decide (e.1 = e.2.1)
noncomputable def EG (S V : Nat) (z : Nat → Int × Int × Int) (P : Nat → Prop) : EMap := fun t => if P t ∧ t < S ∧ okE V (z t) = true then some ((z t).1.toNat, (z t).2.1.toNat, (z t).2.2) else none
section
variable {S V : Nat} {z : Nat → Int × Int × Int} {P P' : Nat → Prop} {i : Nat}
theorem EG_congr (h : ∀ t, t < S → (P t ↔ P' t)) : EG S V z P = EG S V z P' := by
  funext t
  unfold EG
  by_cases ht : t < S
  · simp only [h t ht]
  · rw [if_neg (fun e => ht e.2.1), if_neg (fun e => ht e.2.1)]
theorem EG_none (h : ∀ t, ¬ P t) : EG S V z P = fun _ => none := by
  funext t; unfold EG; rw [if_neg (fun e => h t e.1)]
theorem eg_code (hi : i < S) (hP : ¬ P i) : (addCode S V (EG S V z P) i (z i).1 (z i).2.1 = 0) ↔ okE V (z i) = true := by
  have hg : EG S V z P i = none := by unfold EG; rw [if_neg (fun e => hP e.1)]
  unfold addCode okE
  rw [Int.toNat_natCast, hg, inV_lt hi]
  by_cases h1 : inV V (z i).1 = true
  · by_cases h2 : inV V (z i).2.1 = true
    · rw [if_pos ⟨rfl, h1, h2⟩, h1, h2]
      by_cases h3 : (z i).1 = (z i).2.1
      · rw [if_pos h3]; simp [h3]
      · rw [if_neg h3]; simp [h3]
    · rw [if_neg (fun e => h2 e.2.2)]; simp [h2]
  · rw [if_neg (fun e => h1 e.2.1)]; simp [h1]
theorem eg_add (hi : i < S) (hP : ¬ P i) : addG S V (EG S V z P) i (z i).1 (z i).2.1 (z i).2.2 = EG S V z (fun t => P t ∨ t = i) := by
  unfold addG
  by_cases h : okE V (z i) = true
  · rw [if_pos ((eg_code hi hP).2 h)]
    funext t
    by_cases ht : t = i
    · subst ht
      rw [Int.toNat_natCast, updG_same]
      unfold EG; rw [if_pos ⟨.inr rfl, hi, h⟩]
    · rw [Int.toNat_natCast, updG_other ht]
      unfold EG
      simp [ht]
  · rw [if_neg (fun e => h ((eg_code hi hP).1 e))]
    funext t
    unfold EG
    by_cases ht : t = i
    · subst ht; rw [if_neg (fun e => h e.2.2), if_neg (fun e => h e.2.2)]
    · simp [ht]
end

/-- The slots that are done after k rounds, and the next one. -/
def gP (back : Bool) (len k t : Nat) : Prop := if back then len - k ≤ t else t < k
def gI (back : Bool) (len k : Nat) : Nat := if back then len - 1 - k else k
theorem gP_zero {back : Bool} {len t : Nat} (ht : t < len) : ¬ gP back len 0 t := by
  unfold gP; cases back <;> simp; omega
theorem gP_succ {back : Bool} {len k t : Nat} (hk : k < len) : gP back len (k + 1) t ↔ gP back len k t ∨ t = gI back len k := by
  unfold gP gI; cases back <;> simp <;> omega
theorem gP_next {back : Bool} {len k : Nat} (hk : k < len) : ¬ gP back len k (gI back len k) := by
  unfold gP gI; cases back <;> simp; omega
theorem gP_all {back : Bool} {len t : Nat} (ht : t < len) : gP back len len t := by
  unfold gP; cases back <;> simp; omega
theorem gI_lt {back : Bool} {len k : Nat} (hk : k < len) : gI back len k < len := by
  unfold gI; cases back <;> simp <;> omega

end Go.Proofs.YthkkelkgfkehlaaGreat

/- forest: what is reached by rounds over a list of edges (plain law). -/
namespace Go.Proofs.YthkkelkgfkehlaaGreat
open Classical

section
variable (use : Nat → Bool) (A B : Nat → Nat)
/-- The first edges of a list, one after another. -/
def rdF : Nat → (Nat → Bool) → Nat → Bool
  | 0, f => f
  | k + 1, f => if use k && (rdF k f (A k) || rdF k f (B k)) then updT (updT (rdF k f) (A k) true) (B k) true else rdF k f
/-- Rounds. -/
def rdR (len : Nat) : Nat → (Nat → Bool) → Nat → Bool
  | 0, f => f
  | r + 1, f => rdF use A B len (rdR len r f)
variable {use A B} {len n : Nat} {f : Nat → Bool}
theorem upd2 {f : Nat → Bool} {a b v : Nat} : updT (updT f a true) b true v = true ↔ f v = true ∨ v = a ∨ v = b := by
  unfold updT
  by_cases h1 : v = b
  · simp [h1]
  · by_cases h2 : v = a
    · simp [h2]
    · simp [h1, h2]
theorem rdF_ge : ∀ (k : Nat) (v : Nat), f v = true → rdF use A B k f v = true
  | 0, v, h => h
  | k + 1, v, h => by
    have ih := rdF_ge k v h
    unfold rdF
    split
    · exact upd2.2 (.inl ih)
    · exact ih
theorem rdF_le {k m : Nat} (h : k ≤ m) {v : Nat} (hv : rdF use A B k f v = true) : rdF use A B m f v = true := by
  induction h with
  | refl => exact hv
  | @step m _ ih =>
    unfold rdF
    split
    · exact upd2.2 (.inl ih)
    · exact ih
def Closed (use : Nat → Bool) (A B : Nat → Nat) (len : Nat) (f : Nat → Bool) : Prop := ∀ t, t < len → use t = true → (f (A t) = true ↔ f (B t) = true)
theorem rdF_closed (h : Closed use A B len f) : ∀ k, k ≤ len → ∀ v, rdF use A B k f v = f v
  | 0, _, v => rfl
  | k + 1, hk, v => by
    have ih := rdF_closed h k (by omega)
    unfold rdF
    rw [ih, ih]
    split
    · rename_i hc
      simp only [Bool.and_eq_true, Bool.or_eq_true] at hc
      have hh := h k (by omega) hc.1
      have hA : f (A k) = true := hc.2.elim id hh.2
      have hB : f (B k) = true := hh.1 hA
      cases hv : f v with
      | true => exact upd2.2 (.inl (by rw [ih]; exact hv))
      | false =>
        cases hc2 : updT (updT (rdF use A B k f) (A k) true) (B k) true v with
        | false => rfl
        | true =>
          rcases upd2.1 hc2 with e | e | e
          · rw [ih, hv] at e; cases e
          · rw [e, hA] at hv; cases hv
          · rw [e, hB] at hv; cases hv
    · exact ih v
theorem rdF_new (h : ¬ Closed use A B len f) (hn : ∀ t, t < len → use t = true → A t < n ∧ B t < n) : ∃ v, v < n ∧ f v = false ∧ rdF use A B len f v = true := by
  have ⟨t, ht⟩ := Classical.not_forall.1 h
  have ⟨h1, ht⟩ := Classical.not_imp.1 ht
  have ⟨h2, h3⟩ := Classical.not_imp.1 ht
  have hb := hn t h1 h2
  have key : (f (A t) = true ∨ f (B t) = true) → rdF use A B (t + 1) f (A t) = true ∧ rdF use A B (t + 1) f (B t) = true := by
    intro hab
    have : (use t && (rdF use A B t f (A t) || rdF use A B t f (B t))) = true := by
      rw [h2, Bool.true_and, Bool.or_eq_true]
      exact hab.imp (rdF_ge t _) (rdF_ge t _)
    unfold rdF
    rw [if_pos this]
    exact ⟨upd2.2 (.inr (.inl rfl)), upd2.2 (.inr (.inr rfl))⟩
  cases ha : f (A t) with
  | true =>
    refine ⟨B t, hb.2, ?_, rdF_le (by omega) (key (.inl ha)).2⟩
    cases hB : f (B t) with
    | false => rfl
    | true => exact absurd (by simp [ha, hB]) h3
  | false =>
    cases hB : f (B t) with
    | true => exact ⟨A t, hb.1, ha, rdF_le (by omega) (key (.inr hB)).1⟩
    | false => exact absurd (by simp [ha, hB]) h3
theorem rdR_ge (r v : Nat) (h : f v = true) : rdR use A B len r f v = true := by
  induction r with
  | zero => exact h
  | succ r ih => unfold rdR; exact rdF_ge _ _ ih
theorem rdR_cnt (hn : ∀ t, t < len → use t = true → A t < n ∧ B t < n) (h0 : ∃ v, v < n ∧ f v = true) : ∀ r, Closed use A B len (rdR use A B len r f) ∨ r + 1 ≤ cntT n fun v => rdR use A B len r f v = true
  | 0 => by
    right
    obtain ⟨v, hv, hf⟩ := h0
    have := cntT_drop (T := fun v => f v = true) hv hf
    show 0 + 1 ≤ cntT n fun v => f v = true
    omega
  | r + 1 => by
    rcases rdR_cnt hn h0 r with h | h
    · left
      have e : ∀ v, rdR use A B len (r + 1) f v = rdR use A B len r f v := fun v => by
        show rdF use A B len (rdR use A B len r f) v = _
        exact rdF_closed h len (Nat.le_refl _) v
      intro t ht hu
      rw [e, e]; exact h t ht hu
    · by_cases hc : Closed use A B len (rdR use A B len r f)
      · left
        have e : ∀ v, rdR use A B len (r + 1) f v = rdR use A B len r f v := fun v => by
          show rdF use A B len (rdR use A B len r f) v = _
          exact rdF_closed hc len (Nat.le_refl _) v
        intro t ht hu
        rw [e, e]; exact hc t ht hu
      · right
        obtain ⟨v, hv, h1, h2⟩ := rdF_new hc hn
        have h3 := cntT_drop (S := n) (T := fun v => rdR use A B len (r + 1) f v = true) hv h2
        have h4 : cntT n (fun v => rdR use A B len r f v = true) ≤ cntT n (fun u => rdR use A B len (r + 1) f u = true ∧ u ≠ v) := cnt_le_of n fun u hu => ⟨rdF_ge _ _ hu, by rintro rfl; rw [h1] at hu; cases hu⟩
        omega
theorem rdR_closed (hn : ∀ t, t < len → use t = true → A t < n ∧ B t < n) (h0 : ∃ v, v < n ∧ f v = true) : Closed use A B len (rdR use A B len n f) := by
  rcases rdR_cnt hn h0 n with h | h
  · exact h
  · have := cntT_le n fun v => rdR use A B len n f v = true
    omega
theorem rdF_sound {G : EMap} {U : Nat → Prop} {p : Nat} (hG : ∀ t, t < len → use t = true → U t ∧ ∃ x, G t = some (A t, B t, x)) (hf : ∀ v, f v = true → Cx G U p v) : ∀ k, k ≤ len → ∀ v, rdF use A B k f v = true → Cx G U p v
  | 0, _, v, h => hf v h
  | k + 1, hk, v, h => by
    have ih := rdF_sound hG hf k (by omega)
    unfold rdF at h
    split at h
    · rename_i hc
      simp only [Bool.and_eq_true, Bool.or_eq_true] at hc
      obtain ⟨hu, x, hg⟩ := hG k (by omega) hc.1
      have hA : Cx G U p (A k) := by
        rcases hc.2 with e | e
        · exact ih _ e
        · exact (ih _ e).trans (Cx.edge' hu hg)
      rcases upd2.1 h with e | e | e
      · exact ih v e
      · rw [e]; exact hA
      · rw [e]; exact hA.trans (Cx.edge hu hg)
    · exact ih v h
theorem rdR_sound {G : EMap} {U : Nat → Prop} {p : Nat} (hG : ∀ t, t < len → use t = true → U t ∧ ∃ x, G t = some (A t, B t, x)) (hf : ∀ v, f v = true → Cx G U p v) : ∀ r v, rdR use A B len r f v = true → Cx G U p v
  | 0, v, h => hf v h
  | r + 1, v, h => rdF_sound hG (rdR_sound hG hf r) len (Nat.le_refl _) v h
/-- What is reached is what is connected. -/
theorem rd_cx {G : EMap} {U : Nat → Prop} {p : Nat} (hp : p < n) (hn : ∀ t, t < len → use t = true → A t < n ∧ B t < n) (hG : ∀ t, t < len → use t = true → U t ∧ ∃ x, G t = some (A t, B t, x))
    (hU : ∀ t a b x, U t → G t = some (a, b, x) → t < len ∧ use t = true ∧ a = A t ∧ b = B t) (v : Nat) : rdR use A B len n (updT (fun _ => false) p true) v = true ↔ Cx G U p v := by
  constructor
  · refine rdR_sound hG (fun v h => ?_) n v
    by_cases e : v = p
    · rw [e]; exact .refl p
    · rw [updT_other e] at h; cases h
  · intro h
    have hc := rdR_closed (f := updT (fun _ => false) p true) hn ⟨p, hp, updT_same _ _ _⟩
    have := Cx.inv (fun v => rdR use A B len n (updT (fun _ => false) p true) v = true) (fun s a b x hu hg => by
      obtain ⟨h1, h2, rfl, rfl⟩ := hU s a b x hu hg
      exact hc s h1 h2) h
    exact this.1 (rdR_ge _ _ (updT_same _ _ _))
end
end Go.Proofs.YthkkelkgfkehlaaGreat

/- forest: reached, the laws' own. -/
namespace Go.Proofs.YthkkelkgfkehlaaGreat
open Go.RowKit Classical
set_option maxRecDepth 10000
set_option maxHeartbeats 1600000

def zA (z : Nat → Int × Int × Int) (i : Nat) : Nat := (z i).1.toNat
def zB (z : Nat → Int × Int × Int) (i : Nat) : Nat := (z i).2.1.toNat
theorem okE_in {n : Nat} {z : Nat → Int × Int × Int} {i : Nat} (h : okE n (z i) = true) : (z i).1 = (zA z i : Int) ∧ (z i).2.1 = (zB z i : Int) ∧ zA z i < n ∧ zB z i < n ∧ zA z i ≠ zB z i := by
  unfold okE at h
  simp only [Bool.and_eq_true, Bool.not_eq_true', decide_eq_false_iff_not] at h
  obtain ⟨x, e1, h1⟩ := inV_nat h.1.1
  obtain ⟨y, e2, h2⟩ := inV_nat h.1.2
  unfold zA zB
  omega
noncomputable def rch (n len : Nat) (z : Nat → Int × Int × Int) (use : Nat → Bool) (p : Nat) : Nat → Bool := rdR use (zA z) (zB z) len n (updT (fun _ => false) p true)

end Go.Proofs.YthkkelkgfkehlaaGreat

namespace Go.Proofs.YthkkelkgfkehlaaGreat
open Go.RowKit Classical
set_option maxRecDepth 10000
set_option maxHeartbeats 800000

/-- A slice reads the numbers p. -/
def RowN (w : World) (v : Value) (p : List Nat) : Prop := w.ownsRow 0 3 1 v p.length (encT p)
theorem RowN.fr {w w' : World} {v : Value} {p : List Nat} {S : List Nat} (h : RowN w v p) (hf : Fr S w w') (hs : ∀ q, v.ownBlock = some q → q ∉ S) : RowN w' v p :=
  ownsRow_same h (fun q hq => hf.keep q (ownsRow_lt h hq) (hs q hq))
theorem RowN.at {w : World} {v : Value} {p : List Nat} (h : RowN w v p) {i : Nat} (hi : i < p.length) : ∃ b cap, v = .slice (some ⟨b, 0, none⟩) p.length cap ∧ b < w.heap.size ∧ w.cell? ⟨b, i, none⟩ = some (.int .i64 (p[i]'hi)) := by
  obtain ⟨b, cap, e, _, h2, h3, _⟩ := ownsRow_at h hi
  refine ⟨b, cap, e, h2, h3.trans ?_⟩
  simp [encT, hi]
theorem RowN.slice {w : World} {v : Value} {p : List Nat} (h : RowN w v p) : ∃ a cap, v = .slice a p.length cap := ownsRow_slice h

theorem drew_ex (w : World) (k n : Nat) : ∃ m, (w.drewN k).drewN n = w.drewN m := ⟨k + n, by simp⟩

theorem same_w {w : World} {v u : Value} {p q : List Nat} (hv : RowN w v p) (hu : RowN w u q) (hp : p.length ≤ 65536) (_hq : q.length ≤ 65536) :
    Calls Tryz.prog 14 #[v, u] w fun e w' => e = .returned (.bool (decide (p = q))) ∧ ∃ k, w' = w.drewN k := by
  obtain ⟨a1, c1, rfl⟩ := hv.slice
  obtain ⟨a2, c2, rfl⟩ := hu.slice
  have HV := Lib.hid hv; clear hv
  have HU := Lib.hid hu; clear hu
  by_cases hl : p.length = q.length
  · have hb : ((p.length : Int) != (q.length : Int)) = false := by simp; omega
    go_enter Tryz.func14, Tryz.ntmps14
    go_wp2
    go_loopw [5] (fun x wr => ∃ i : Nat, i ≤ p.length ∧ x = .int .i64 i ∧ (∃ k, wr = w.drewN k) ∧ Hid (p.take i = q.take i)) (fun x _ => p.length - (intOf x).toNat)
    case atStart => exact ⟨0, Nat.zero_le _, rfl, ⟨0, rfl⟩, Lib.hid (by simp)⟩
    case round =>
      obtain ⟨i, hi, rfl, ⟨k, rfl⟩, HT⟩ := hrel
      by_cases hlt : i < p.length
      · obtain ⟨b1, c1', e1, _, r1⟩ := HV.out.at hlt
        obtain ⟨b2, c2', e2, _, r2⟩ := HU.out.at (show i < q.length by omega)
        simp only [Value.slice.injEq, true_and] at e1 e2
        obtain ⟨rfl, rfl⟩ := e1
        obtain ⟨rfl, rfl⟩ := e2
        have hi1 : (i : Int) < p.length := by omega
        have hi2 : (i : Int) < q.length := by omega
        have hi0 : (0 : Int) ≤ i := by omega
        have hgp : p[i]? = some (p[i]'hlt) := List.getElem?_eq_getElem hlt
        have hgq : q[i]? = some (q[i]'(by omega)) := List.getElem?_eq_getElem (by omega)
        have Hg := Lib.hid (And.intro hgp hgq); clear hgp hgq
        generalize p[i]'hlt = x at *
        generalize q[i]'(by omega) = y at *
        by_cases hxy : x = y
        · have hne : ((x : Int) != (y : Int)) = false := by simp; omega
          have Hxy := Lib.hid hxy; clear hxy
          go_wp2
          go_quiet (fail)
          go_wp2
          go_roundw
          case rel =>
            refine ⟨i + 1, by omega, by go_num, ⟨_, rfl⟩, Lib.hid ?_⟩
            rw [List.take_add_one, List.take_add_one, HT.out, Hg.out.1, Hg.out.2, Hxy.out]
          case measure => simp [intOf]; omega
        · have hne : ((x : Int) != (y : Int)) = true := by simp; omega
          have Hxy := Lib.hid hxy; clear hxy
          go_wp2
          go_quiet (fail)
          go_wp2
          go_ret
          refine ⟨?_, drew_ex _ _ _⟩
          have : decide (p = q) = false := decide_eq_false (fun e => by
            have h1 := Hg.out.1; have h2 := Hg.out.2
            rw [e, h2] at h1
            exact Hxy.out (Option.some.inj h1).symm)
          rw [this]; rfl
      · obtain rfl : i = p.length := by omega
        go_wp2
        go_ret
        refine ⟨?_, _, rfl⟩
        have : decide (p = q) = true := decide_eq_true (by
          have := HT.out
          rw [List.take_of_length_le (Nat.le_refl _), List.take_of_length_le (by omega)] at this
          exact this)
        rw [this]; rfl
  · have hb : ((p.length : Int) != (q.length : Int)) = true := by simp; omega
    have Hl := Lib.hid hl; clear hl
    go_enter Tryz.func14, Tryz.ntmps14
    go_wp2
    go_ret
    refine ⟨?_, 0, rfl⟩
    rw [decide_eq_false (fun e => Hl.out (by rw [e]))]; rfl

end Go.Proofs.YthkkelkgfkehlaaGreat
