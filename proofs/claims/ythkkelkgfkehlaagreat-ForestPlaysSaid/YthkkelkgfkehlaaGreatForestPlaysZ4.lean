/- The statement 'ForestPlays': for every input the call returns true, and each argument reads afterwards as it read before. -/
import Derived.Shelf.SlGeneric
import Derived.Shelf.SlicesE.Clone
import Derived.Ground.SlgnProg
import Derived.Deep.WholeRow
import Derived.Deep.RegionHeld3
import Derived.StillTailTactics
import Derived.Test.YthkkelkgfkehlaaGreatB11
import Derived.Ground.SlmcProg
import Derived.Shelf.SlMaps.Clone
import Derived.Test.YthkkelkgfkehlaaGreatForestPlaysZ3
import Derived.Test.YthkkelkgfkehlaaGreatB14
import Derived.Test.YthkkelkgfkehlaaGreatForestPlaysZ2
import Derived.Test.YthkkelkgfkehlaaGreatB1
/- heap: Copy. -/
namespace Go.Proofs.YthkkelkgfkehlaaGreat
open Go.RowKit
set_option maxRecDepth 10000
set_option maxHeartbeats 1600000

def Tryz.laysCloneE_ren : Go.Shelf.Ren := ⟨fun | 41 => 63 | n => n, fun | 22 => 88 | 23 => 71 | 4 => 4 | n => n, fun | n => n⟩
theorem Tryz.laysCloneE : Go.Proofs.SlLaysE0.n41 Tryz.prog Tryz.laysCloneE_ren := {
  mixed := by kernel_rfl
  f41 := ⟨Tryz.f63.name, by decide, Tryz.func63.trans (congrArg some (by kernel_rfl))⟩
  t4 := Tryz.underlying4
  a4 := Tryz.isAgg4
  z4 := Tryz.sizeOf4
  v4 := Tryz.zeroValue4
  t22 := Tryz.underlying88
  a22 := Tryz.isAgg88
  z22 := Tryz.sizeOf88
  v22 := Tryz.zeroValue88 }

theorem Tryz.sizeEnt : ∀ w, (Go.sizeOf 71).run Tryz.prog w = .ok 2 w := fun w => by kernel_rfl
theorem clone_ents {w : World} {v : Value} {n : Nat} {e : Nat → Nat × Int} (h : w.ownsRow 0 71 2 v n (entC n e)) (hn : n ≤ 65536) :
    Calls Tryz.prog 63 #[v] w fun r w' => ∃ v', r = .returned v' ∧ w'.ownsRow 0 71 2 v' n (entC n e) ∧ (∀ q, v'.ownBlock = some q → w.heap.size ≤ q) ∧ Fr [] w w' := by
  obtain ⟨i0, hi, hz0, hz1, hz2⟩ := info_parts Tryz.infoEnt
  rcases h.2 with ⟨rfl, rfl⟩ | ⟨g, cap, cur, rfl, hg, hcur, hnc, hcm, hcs, htk⟩
  · refine (AnyE.slices_Clone_nil Tryz.laysCloneE 0 0 w).mono ?_
    rintro _ _ ⟨rfl, rfl⟩
    exact ⟨_, rfl, h, fun q e => (by cases e), Fr.refl _ _⟩
  · refine (AnyE.slices_Clone Tryz.laysCloneE i0 (.agg #[.int .i64 0, .int .i64 0]) 2 16 hi hz0 hz1 hz2 rfl (by decide) Tryz.sizeEnt g 0 n cap (entC n e) w (entC_len n e) (by unfold maxLen; omega) (by omega) (fun j u hj => ?_) (fun u hu => ?_)).mono ?_
    · have hjl : j < n * 2 := by have := (List.getElem?_eq_some_iff.1 hj).1; rwa [entC_len] at this
      rw [← htk, List.getElem?_take, if_pos hjl] at hj
      simpa [World.cell?, hcur] using hj
    · simp only [entC, List.mem_flatMap, List.mem_range] at hu
      obtain ⟨k, _, hk⟩ := hu
      simp at hk
      rcases hk with rfl | rfl <;> rfl
    · rintro _ w' ⟨v', rfl, h1, _, hB⟩
      refine ⟨v', rfl, ⟨h1.1, h1.2.elim .inl (fun ⟨g, cap, cur, k1, _, k3⟩ => .inr ⟨g, cap, cur, k1, Nat.zero_le _, k3⟩)⟩, fun q hq => ?_, Fr.of_below hB⟩
      rcases h1.2 with ⟨rfl, _⟩ | ⟨g, cap, cur, rfl, hb, _⟩
      · cases hq
      · simp [Value.ownBlock] at hq; omega
theorem clone_ents' {w : World} {v : Value} {n : Nat} {e : Nat → Nat × Int} (h : w.ownsRow 0 71 2 v n (entC n e)) (hn : n ≤ 65536) :
    Calls Tryz.prog 63 #[v] w fun r w' => ∃ a c, r = .returned (.slice a n c) ∧ w'.ownsRow 0 71 2 (.slice a n c) n (entC n e) ∧ (∀ q, (Value.slice a n c).ownBlock = some q → w.heap.size ≤ q) ∧ Fr [] w w' := by
  refine (clone_ents h hn).mono ?_
  rintro r w' ⟨u, rfl, h1, h2, h3⟩
  obtain ⟨a, c, rfl⟩ := ownsRow_slice h1
  exact ⟨a, c, rfl, h1, h2, h3⟩

/-- The copy under way: c's block hc with the directory dr, the blocks bs' copied so far. -/
structure CS (w w' : World) (x : Value) (slots n m : Nat) (e : Nat → Nat × Int) (pl : Nat → Nat) (v : Value) (hc dr : Nat) (bs : Nat → Option Nat) : Prop where
  fr : Fr [] w w'
  hd : Blk w' hc 90 [x, .int .i64 slots, v, .slice (some ⟨dr, 0, none⟩) m m]
  it : w'.ownsRow 0 71 2 v n (entC n e)
  dir : Blk w' dr 95 ((List.range m).map fun k => optP (bs k))
  a1 : w.heap.size ≤ hc
  a2 : w.heap.size ≤ dr
  a3 : hc ≠ dr
  a4 : ∀ q, v.ownBlock = some q → w.heap.size ≤ q ∧ q ≠ hc ∧ q ≠ dr
  bl : ∀ k b, k < m → bs k = some b → Blk w' b 97 (blkC pl k) ∧ w.heap.size ≤ b ∧ b ≠ hc ∧ b ≠ dr ∧ v.ownBlock ≠ some b
  inj : ∀ k k' b, k < m → k' < m → bs k = some b → bs k' = some b → k = k'
theorem CS.self {w w' : World} {x y : Value} {slots n m : Nat} {e : Nat → Nat × Int} {pl : Nat → Nat} {v : Value} {hc dr : Nat} {bs : Nat → Option Nat} (h : CS w w' x slots n m e pl v hc dr bs) :
    CS w (w'.setCell ⟨hc, 0, none⟩ y) y slots n m e pl v hc dr bs :=
  ⟨h.fr.setCell _ _ (.inr h.a1), h.hd.set 0 _, ownsRow_other h.it _ _ (fun e => (h.a4 _ e).2.1 rfl), h.dir.other _ _ h.a3.symm, h.a1, h.a2, h.a3, h.a4,
    fun k b hk hb => by
      obtain ⟨k1, k2, k3, k4, k5⟩ := h.bl k b hk hb
      exact ⟨k1.other _ _ k3, k2, k3, k4, k5⟩, h.inj⟩
theorem CS.more {w w' : World} {x : Value} {slots n m : Nat} {e : Nat → Nat × Int} {pl : Nat → Nat} {v : Value} {hc dr : Nat} {bs : Nat → Option Nat} (h : CS w w' x slots n m e pl v hc dr bs) {k : Nat} (hk : k < m) (hb : bs k = none) :
    CS w ((w'.alloc (.cells (blkC pl k).toArray 97)).setCell ⟨dr, k, none⟩ (hptr w'.heap.size)) x slots n m e pl v hc dr (updB bs k w'.heap.size) := by
  have hnew := Blk.new w' (blkC pl k) 97
  have hl1 := h.hd.lt
  have hl2 := h.dir.lt
  have hle := h.fr.size
  refine ⟨(h.fr.alloc _).setCell _ _ (.inr h.a2), (h.hd.alloc _).other _ _ h.a3, ownsRow_other (h.it.alloc _) _ _ (fun e => (h.a4 _ e).2.2 rfl), ?_, h.a1, h.a2, h.a3, h.a4, fun j b hj hb' => ?_, fun j j' b hj hj' hb' hb2 => ?_⟩
  · have := (h.dir.alloc (.cells (blkC pl k).toArray 97)).set k (hptr w'.heap.size)
    have e1 : ((List.range m).map fun x => optP (bs x)).set k (hptr w'.heap.size) = (List.range m).map fun x => optP (updB bs k w'.heap.size x) := by
      apply List.ext_getElem?
      intro j
      by_cases hj : j < m
      · by_cases e2 : j = k
        · subst e2; rw [List.getElem?_set_self (by simpa using hj)]; simp [hj, updB_same, optP]
        · rw [List.getElem?_set_ne (by omega)]; simp [hj, updB_other e2]
      · rw [List.getElem?_eq_none (by simp; omega), List.getElem?_eq_none (by simp; omega)]
    rw [e1] at this; exact this
  · by_cases e2 : j = k
    · subst e2
      rw [updB_same] at hb'; cases hb'
      refine ⟨hnew.other _ _ (by simp; omega), hle, by omega, by omega, fun e3 => ?_⟩
      have := (h.it.lt _ e3).2; omega
    · rw [updB_other e2] at hb'
      obtain ⟨k1, k2, k3, k4, k5⟩ := h.bl j b hj hb'
      exact ⟨(k1.alloc _).other _ _ k4, k2, k3, k4, k5⟩
  · by_cases e2 : j = k
    · by_cases e3 : j' = k
      · omega
      · rw [updB_other e3] at hb2
        subst e2; rw [updB_same] at hb'; cases hb'
        have := (h.bl j' _ hj' hb2).1.lt; omega
    · rw [updB_other e2] at hb'
      by_cases e3 : j' = k
      · subst e3; rw [updB_same] at hb2; cases hb2
        have := (h.bl j _ hj hb').1.lt; omega
      · rw [updB_other e3] at hb2
        exact h.inj j j' b hj hj' hb' hb2

theorem hcopy_w {w : World} {ph slots n : Nat} {Q : Nat → Option Int} {l : List Nat} (h : HeapAt w ph slots Q n l) :
    Calls Tryz.prog 35 #[hptr ph] w fun r w' => ∃ ph', r = .returned (hptr ph') ∧ ∃ l', HeapAt w' ph' slots Q n l' ∧ Fr [] w w' ∧ ∀ b ∈ l', w.heap.size ≤ b := by
  obtain ⟨e, pl, v, gp, cp, bs, hm, hk, hp, hq, rfl⟩ := h
  obtain ⟨m, hmm⟩ : ∃ m, m = (slots + 63) / 64 := ⟨_, rfl⟩
  have hle := hm.le
  have hmk := fun w' => run_make_ptrs m w' (by omega)
  have c0 := hm.hd.cell 0
  have c1 := hm.hd.cell 1
  have c2 := hm.hd.cell 2
  have c3 := hm.hd.cell 3
  simp only [List.getElem?_cons_zero, List.getElem?_cons_succ, ← hmm] at c0 c1 c2 c3
  have HC := Lib.hid (fun (w' : World) (hf : Fr [] w w') => clone_ents' (ownsRow_same hm.items (fun k hk => hf.keep k (hm.items.lt k hk).2 (by simp))) hm.nb)
  have hml : m ≤ 1024 := by omega
  have HMm := Lib.hid hmm; clear hmm
  have HM := Lib.hid hm
  have HK := Lib.hid (And.intro hk (And.intro hp hq)); clear hk hp hq
  have HV := Lib.hid (hvalid_w hm)
  clear hm
  go_enter Tryz.func35, Tryz.ntmps35
  go_wp2_with fail
  refine HV.out.mono ?_
  rintro _ w ⟨rfl, rfl⟩
  have HQ := Lib.hid (HC.out w.drew (Fr.refl [] w).drew)
  go_wp2_with fail
  go_region_held3 (fun w' => w'.cell? ⟨ph, 1, none⟩ = some (.int .i64 slots) ∧ w'.cell? ⟨ph, 2, none⟩ = some v ∧ w'.cell? ⟨ph, 3, none⟩ = some (.slice (some ⟨gp, 0, none⟩) m cp))
    (first
      | go_keep
      | exact ⟨hF4.cell c1 (by simp), hF4.cell c2 (by simp), hF4.cell c3 (by simp)⟩
      | exact ⟨hF4.cell (((Fr.refl [] w).alloc _).drew.cell c1 (by simp)) (by simp), hF4.cell (((Fr.refl [] w).alloc _).drew.cell c2 (by simp)) (by simp), hF4.cell (((Fr.refl [] w).alloc _).drew.cell c3 (by simp)) (by simp)⟩)
    (first
      | (go_at_call 63; with_reducible refine HQ.out.mono ?_; rintro e w4 ⟨au, cu, rfl, hR4, hQ4, hF4⟩)
      | (go_at_call 63; refine (HC.out _ (((Fr.refl [] w).alloc _).drew)).mono ?_; rintro e w4 ⟨au, cu, rfl, hR4, hQ4, hF4⟩))
  focus
    have hb := Blk.new (w4.alloc (.cells ((List.range m).map fun k => optP ((fun _ => none : Nat → Option Nat) k)).toArray 95)) [.pointer none, .int .i64 slots, .slice au n cu, .slice (some ⟨w4.heap.size, 0, none⟩) m m] 90
    have hd := (Blk.new w4 ((List.range m).map fun k => optP ((fun _ => none : Nat → Option Nat) k)) 95).alloc (.cells [.pointer none, .int .i64 slots, .slice au n cu, .slice (some ⟨w4.heap.size, 0, none⟩) m m].toArray 90)
    rw [World.size_alloc] at hb
    have hle := hF4.size
    have hlq := hR4.lt
    have F : CS w _ _ slots n m e pl _ _ _ (fun _ => none) := ⟨(((Fr.refl [] w).drew.trans' hF4).alloc _).alloc _, hb, (hR4.alloc _).alloc _, hd, by simp at hle; omega, by simpa using hle, by omega, fun q hq => ⟨by simpa using hQ4 q hq, by have := (hlq q hq).2; omega, by have := (hlq q hq).2; omega⟩, fun k b _ h => (by cases h), fun k k' b _ _ h => (by cases h)⟩
    have HF := Lib.hid F
    clear hb hd hle hlq F hR4 hQ4 hF4
    generalize hw5 : (w4.alloc (.cells ((List.range m).map fun k => optP ((fun _ => none : Nat → Option Nat) k)).toArray 95)).alloc (.cells [.pointer none, .int .i64 slots, .slice au n cu, .slice (some ⟨w4.heap.size, 0, none⟩) m m].toArray 90) = w5 at *
    generalize w4.heap.size + 1 = hc at *
    generalize w4.heap.size = dr at *
    rename_i hHH
    clear hw5
  rotate_left
  focus
    have hb := Blk.new w4 [.pointer none, .int .i64 slots, .slice au n cu, .slice (some ⟨w.heap.size, 0, none⟩) m m] 90
    have hd := (hF4.blk (Blk.new w ((List.range m).map fun k => optP ((fun _ => none : Nat → Option Nat) k)) 95).drew (by simp)).alloc (.cells [.pointer none, .int .i64 slots, .slice au n cu, .slice (some ⟨w.heap.size, 0, none⟩) m m].toArray 90)
    have hle := hF4.size
    have hlq := hR4.lt
    have F : CS w _ _ slots n m e pl _ _ _ (fun _ => none) := ⟨((((Fr.refl [] w).alloc _).drew).trans' hF4).alloc _, hb, hR4.alloc _, hd, by simp at hle; omega, Nat.le_refl _, by simp at hle; omega, fun q hq => ⟨by have := hQ4 q hq; simp at this; omega, by have := (hlq q hq).2; omega, by have := hQ4 q hq; simp at this; omega⟩, fun k b _ h => (by cases h), fun k k' b _ _ h => (by cases h)⟩
    have HF := Lib.hid F
    clear hb hd hle hlq F hR4 hQ4 hF4
    generalize hw5 : w4.alloc (.cells [.pointer none, .int .i64 slots, .slice au n cu, .slice (some ⟨w.heap.size, 0, none⟩) m m].toArray 90) = w5 at *
    generalize w4.heap.size = hc at *
    generalize w.heap.size = dr at *
    rename_i hHH
    clear hw5
  all_goals
    have F2 := HF.out.self (y := hptr hc)
    have hx3 : w5.cell? ⟨ph, 3, none⟩ = some (.slice (some ⟨gp, 0, none⟩) m cp) := hHH.2.2
    have hne : ph ≠ hc := by have := HM.out.hd.lt; have := HF.out.a1; omega
    have s0 := HF.out.hd.cell 0
    have z0 := HF.out.hd.frozen 0
    simp only [List.getElem?_cons_zero] at s0
    have HF2 := Lib.hid F2
    clear F2 hHH HF
    go_wp2_with fail
    clear hx3 hne s0 z0
    generalize w5.setCell ⟨hc, 0, none⟩ (hptr hc) = w6 at *
    go_loopw [36] (fun si wr => ∃ (i : Nat) (bs' : Nat → Option Nat), i ≤ m ∧ si = .int .i64 i ∧ Hid (CS w wr (hptr hc) slots n m e pl (.slice au n cu) hc dr bs') ∧ Hid ((∀ k, k < i → (bs' k = none ↔ bs k = none)) ∧ ∀ k, i ≤ k → bs' k = none)) (fun si _ => m - (intOf si).toNat)
    case atStart => exact ⟨0, _, Nat.zero_le _, rfl, HF2, Lib.hid ⟨fun k h => by omega, fun _ _ => rfl⟩⟩
    case round =>
      clear HF2
      obtain ⟨i, bs', hi, rfl, HF, HN⟩ := hrel
      by_cases hlt : i < m
      · have hil : (i : Int) < m := by omega
        have hdc : wr.cell? ⟨gp, i, none⟩ = some (optP (bs i)) := HF.out.fr.cell (HM.out.dirAt (by rw [← HMm.out]; exact hlt)) (by simp)
        cases hbi : bs i with
        | none =>
          rw [hbi] at hdc
          simp only [optP, Option.map_none] at hdc
          have HB := Lib.hid hbi; clear hbi
          go_wp2
          go_roundw
          case rel => exact ⟨i + 1, bs', by omega, by go_num, HF, Lib.hid ⟨fun k hk => if h : k < i then HN.out.1 k h else by
            obtain rfl : k = i := by omega
            rw [HN.out.2 k (Nat.le_refl _), HB.out], fun k hk => HN.out.2 k (by omega)⟩⟩
          case measure => simp [intOf]; omega
        | some b =>
          rw [hbi] at hdc
          simp only [optP, Option.map_some] at hdc
          have HB := Lib.hid hbi; clear hbi
          have hcsr : Blk wr b 97 (blkC pl i) := HF.out.fr.blk (HM.out.some_ i b (by rw [← HMm.out]; exact hlt) HB.out) (by simp)
          obtain ⟨cs, hcs⟩ : ∃ cs, cs = blkC pl i := ⟨_, rfl⟩
          have hcl : cs.length = 64 := by rw [hcs]; simp [blkC]
          have hone : ∀ u ∈ cs, u.oneCell' = true := by
            intro u hu
            rw [hcs] at hu
            simp only [blkC, List.mem_map, List.mem_range] at hu
            obtain ⟨j, _, rfl⟩ := hu
            rfl
          have F3 := HF.out.more hlt (HN.out.2 i (Nat.le_refl _))
          have hFa := HF.out.hd.alloc (.cells cs.toArray 97)
          have hFd := HF.out.dir.alloc (.cells cs.toArray 97)
          rw [← hcs] at hcsr F3
          have c3 := hFa.cell 3
          have cd := hFd.cell i
          have zd := hFd.frozen i
          simp only [List.getElem?_cons_zero, List.getElem?_cons_succ] at c3
          have hcd : ((List.range m).map fun k => optP (bs' k))[i]? = some (optP (bs' i)) := by simp [hlt]
          rw [hcd] at cd
          generalize optP (bs' i) = od at *
          have HF3 := Lib.hid F3; clear F3 hFa hFd hcd
          have HCS := Lib.hid hcs; clear hcs
          have hinfo : (Tryz.prog.info? 97).map (·.size) = some cs.toArray.size := by
            have : (Tryz.prog.info? 97).map (·.size) = some 64 := by kernel_rfl
            rw [this]; simp [hcl]
          have hst := run_storeCells_new (P := Tryz.prog) wr 97 #[.int .i64 0, .int .i64 0, .int .i64 0, .int .i64 0, .int .i64 0, .int .i64 0, .int .i64 0, .int .i64 0, .int .i64 0, .int .i64 0, .int .i64 0, .int .i64 0, .int .i64 0, .int .i64 0, .int .i64 0, .int .i64 0, .int .i64 0, .int .i64 0, .int .i64 0, .int .i64 0, .int .i64 0, .int .i64 0, .int .i64 0, .int .i64 0, .int .i64 0, .int .i64 0, .int .i64 0, .int .i64 0, .int .i64 0, .int .i64 0, .int .i64 0, .int .i64 0, .int .i64 0, .int .i64 0, .int .i64 0, .int .i64 0, .int .i64 0, .int .i64 0, .int .i64 0, .int .i64 0, .int .i64 0, .int .i64 0, .int .i64 0, .int .i64 0, .int .i64 0, .int .i64 0, .int .i64 0, .int .i64 0, .int .i64 0, .int .i64 0, .int .i64 0, .int .i64 0, .int .i64 0, .int .i64 0, .int .i64 0, .int .i64 0, .int .i64 0, .int .i64 0, .int .i64 0, .int .i64 0, .int .i64 0, .int .i64 0, .int .i64 0, .int .i64 0] cs.toArray hinfo (by simp [hcl]) (by simpa using hone)
          go_wp2_with (refine wpList_load_row rfl 97 _ rfl b rfl 97 cs.toArray (0, 0) _ hcsr Tryz.underlying97 rfl hinfo ?_)
          go_roundw
          case rel =>
            refine ⟨i + 1, _, by omega, by go_num, HF3, Lib.hid ⟨fun k hk => ?_, fun k hk => ?_⟩⟩
            · by_cases h : k = i
              · subst h; rw [updB_same, HB.out]; simp
              · rw [updB_other h]; exact HN.out.1 k (by omega)
            · rw [updB_other (by omega)]; exact HN.out.2 k (by omega)
          case measure => simp [intOf]; omega
      · obtain rfl : i = m := by omega
        go_wp2
        go_ret
        refine ⟨hc, rfl, hB slots hc (.slice au n cu) dr bs', ⟨e, pl, .slice au n cu, dr, i, bs', ⟨by rw [← HMm.out]; exact HF.out.hd, HF.out.it, by rw [← HMm.out]; exact HF.out.dir, fun k b hk hb => (HF.out.bl k b (by rw [HMm.out]; exact hk) hb).1, fun k hk hb => HM.out.none_ k hk ((HN.out.1 k (by rw [HMm.out]; exact hk)).1 hb), hle, HM.out.nb, HM.out.pb, HF.out.a3, fun e => (HF.out.a4 _ e).2.1 rfl, fun e => (HF.out.a4 _ e).2.2 rfl, fun k b hk hb => (HF.out.bl k b (by rw [HMm.out]; exact hk) hb).2.2, fun k k' b hk hk' => HF.out.inj k k' b (by rw [HMm.out]; exact hk) (by rw [HMm.out]; exact hk')⟩, HK.out.1, HK.out.2.1, HK.out.2.2, rfl⟩, HF.out.fr, fun b hb => ?_⟩
        rcases mem_hB.1 hb with rfl | rfl | hb | ⟨k, hk, hb⟩
        · exact HF.out.a1
        · exact HF.out.a2
        · exact (HF.out.a4 _ hb).1
        · exact (HF.out.bl k b (by rw [HMm.out]; exact hk) hb).2.1
end Go.Proofs.YthkkelkgfkehlaaGreat

/- forest: Copy. -/
namespace Go.Proofs.YthkkelkgfkehlaaGreat
open Go.RowKit Classical
set_option maxRecDepth 10000
set_option maxHeartbeats 1600000

def Tryz.laysCloneM_ren : Go.Shelf.Ren := ⟨fun | 5 => 36 | 7 => 64 | n => n, fun | 23 => 57 | 25 => 3 | 3 => 64 | 4 => 4 | 20 => 20 | n => n, fun | n => n⟩
theorem Tryz.laysCloneM : Go.Proofs.SlLaysW.n5 Tryz.prog Tryz.laysCloneM_ren := {
  mixed := by kernel_rfl
  f5 := ⟨Tryz.f36.name, by decide, Tryz.func36.trans (congrArg some (by kernel_rfl))⟩
  f7 := Tryz.func64.trans (congrArg some (by kernel_rfl))
  t4 := Tryz.underlying4
  a4 := Tryz.isAgg4
  z4 := Tryz.sizeOf4
  v4 := Tryz.zeroValue4
  t20 := Tryz.underlying20
  a20 := Tryz.isAgg20
  z20 := Tryz.sizeOf20
  v20 := Tryz.zeroValue20
  t23 := Tryz.underlying57
  a23 := Tryz.isAgg57
  z23 := Tryz.sizeOf57
  v23 := Tryz.zeroValue57 }

theorem imap_clone {w : World} {mb n : Nat} {m : Int → Option Value} (h : IMap Tryz.prog 3 .i64 okA w mb m n) :
    Calls Tryz.prog 36 #[.map (some mb)] w fun e w' => e = .returned (.map (some w.heap.size)) ∧ IMap Tryz.prog 3 .i64 okA w' w.heap.size m n ∧ Fr [] w w' := by
  obtain ⟨D, h1, h2, h3, h4⟩ := h
  refine (AnyW.maps_Clone_owns Tryz.laysCloneM 3 (tokR okA) mb n D w h1).mono ?_
  rintro _ w' ⟨rfl, k1, _, hB⟩
  exact ⟨rfl, ⟨D, k1, h2, h3, h4⟩, Fr.of_below hB⟩

theorem fcopy_w {w : World} {pf S V : Nat} {G : EMap} {L : List Nat} (h : FAt w pf S V G L) : Calls Tryz.prog 11 #[fptr pf] w fun e w' => ∃ pf', e = .returned (fptr pf') ∧ ∃ L', FAt w' pf' S V G L' ∧ Fr [] w w' ∧ ∀ q ∈ L', w.heap.size ≤ q := by
  obtain ⟨pl, g, ph, mb, l, key, n, h1, hH, hD, rfl⟩ := h
  have hlt := h1.lt
  have hS := h1.leS
  have hV := h1.leV
  have c0 := h1.hd.cell 0
  have c1 := h1.hd.cell 1
  have c2 := h1.hd.cell 2
  have c3 := h1.hd.cell 3
  have c4 := h1.hd.cell 4
  have c5 := h1.hd.cell 5
  simp only [List.getElem?_cons_zero, List.getElem?_cons_succ] at c0 c1 c2 c3 c4 c5
  have HV := Lib.hid (fvalid_w h1)
  have H := Lib.hid h1; have HH := Lib.hid hH; have HD := Lib.hid hD
  have HC1 := Lib.hid (fun (w' : World) (hf : Fr [] w w') => copy_w (LG.fr h1.lct hf (by simp) (by simp)))
  have HC2 := Lib.hid (fun (w' : World) (hf : Fr [] w w') => hcopy_w (hH.fr hf (by simp)))
  have HC3 := Lib.hid (fun (w' : World) (hf : Fr [] w w') => imap_clone (h1.edges.same (hf.keep mb h1.edges.lt (by simp))))
  clear h1 hH hD
  obtain ⟨tr, htr⟩ : ∃ tr, tr = cntT S (isTree G) := ⟨_, rfl⟩
  rw [← htr] at c5
  have HTR := Lib.hid htr; clear htr
  go_enter Tryz.func11, Tryz.ntmps11
  go_wp2_with fail
  refine HV.out.mono ?_
  rintro _ w ⟨rfl, rfl⟩
  go_wp2_with fail
  have hFa : Fr [] w (w.alloc (.cells #[.int .i64 V, .int .i64 S, fptr pl, fptr ph, .map (some mb), .int .i64 tr] 59)) := (Fr.refl [] w).alloc _
  have hB0 : Blk (w.alloc (.cells #[.int .i64 V, .int .i64 S, fptr pl, fptr ph, .map (some mb), .int .i64 tr] 59)) w.heap.size 59 [.int .i64 V, .int .i64 S, fptr pl, fptr ph, .map (some mb), .int .i64 tr] := Blk.new w _ _
  refine (HC1.out _ hFa).mono ?_
  rintro _ w2 ⟨pl', g', rfl, hL2, hF2, hp2, hg2⟩
  have hb2 := hF2.blk hB0 (by simp)
  have d2 := hb2.cell 2
  have z2 := hb2.frozen 2
  simp only [List.getElem?_cons_zero, List.getElem?_cons_succ] at d2
  have hne : pf ≠ w.heap.size := by have := H.out.hd.lt; omega
  have e3 := (hFa.trans' hF2).cell c3 (by simp)
  have e4 := (hFa.trans' hF2).cell c4 (by simp)
  have HF2 := Lib.hid (And.intro (hFa.trans' hF2) (And.intro hb2 (And.intro hL2 (And.intro hp2 hg2))))
  clear hFa hB0 hF2 hb2 hL2 hp2 hg2
  go_wp2_with fail
  have hF2s : Fr [] w (w2.setCell ⟨w.heap.size, 2, none⟩ (fptr pl')) := HF2.out.1.setCell _ _ (.inr (Nat.le_refl _))
  refine (HC2.out _ hF2s).mono ?_
  rintro _ w3 ⟨ph', rfl, l', hH3, hF3, hl3⟩
  have hb3 := hF3.blk (HF2.out.2.1.set 2 (fptr pl')) (by simp)
  have d3 := hb3.cell 3
  have z3 := hb3.frozen 3
  simp only [List.set_cons_succ, List.set_cons_zero, List.getElem?_cons_zero, List.getElem?_cons_succ] at d3
  have f4 := (hF2s.trans' hF3).cell c4 (by simp)
  have HF3 := Lib.hid (And.intro (hF2s.trans' hF3) (And.intro hb3 (And.intro hH3 (And.intro hF3 hl3))))
  clear hF2s hF3 hb3 hH3 hl3 d2 z2 e3 e4
  go_wp2_with fail
  have hF3s : Fr [] w (w3.setCell ⟨w.heap.size, 3, none⟩ (hptr ph')) := HF3.out.1.setCell _ _ (.inr (Nat.le_refl _))
  refine (HC3.out _ hF3s).mono ?_
  rintro _ w4 ⟨rfl, hI4, hF4⟩
  have hb4 := hF4.blk (HF3.out.2.1.set 3 (hptr ph')) (by simp)
  have d4 := hb4.cell 4
  have z4 := hb4.frozen 4
  simp only [List.set_cons_succ, List.set_cons_zero, List.getElem?_cons_zero, List.getElem?_cons_succ] at d4
  rw [World.size_setCell] at hI4 ⊢
  have HF4 := Lib.hid (And.intro (hF3s.trans' hF4) (And.intro hb4 (And.intro hI4 hF4)))
  clear hF3s hF4 hb4 hI4
  go_wp2_with fail
  go_ret
  have G2 : Fr [w.heap.size] w2 (w4.setCell ⟨w.heap.size, 4, none⟩ (.map (some w3.heap.size))) := ((((Fr.refl [w.heap.size] w2).setCell _ _ (.inl (by simp))).trans' (HF3.out.2.2.2.1.mono (by simp))).setCell _ _ (.inl (by simp))).trans' (HF4.out.2.2.2.mono (by simp)) |>.setCell _ _ (.inl (by simp))
  have G3 : Fr [w.heap.size] w3 (w4.setCell ⟨w.heap.size, 4, none⟩ (.map (some w3.heap.size))) := ((((Fr.refl [w.heap.size] w3)).setCell _ _ (.inl (by simp))).trans' (HF4.out.2.2.2.mono (by simp))).setCell _ _ (.inl (by simp))
  have G4 : Fr [w.heap.size] w4 (w4.setCell ⟨w.heap.size, 4, none⟩ (.map (some w3.heap.size))) := (Fr.refl [w.heap.size] w4).setCell _ _ (.inl (by simp))
  have k1 := HF2.out.2.2.2
  simp only [World.size_alloc] at k1
  have k2 := HF2.out.1.size
  have k3 := HF3.out.2.2.2.1.size
  have k4 := HF3.out.2.2.2.2
  rw [World.size_setCell] at k3 k4
  have k5 := LG.lts HF2.out.2.2.1
  have k6 := HF2.out.2.1.lt
  have hlw := HF3.out.2.2.1.lt
  refine ⟨w.heap.size, rfl, _, ⟨pl', g', ph', w3.heap.size, l', key, n, ⟨?_, LG.fr HF2.out.2.2.1 G2 (by simp; omega) (by simp; omega), HF4.out.2.2.1.same (G4.keep _ HF4.out.2.2.1.lt (by simp; omega)), H.out.gw, H.out.keys, H.out.cn, hS, hV, ?_, ?_, ?_, ?_, ?_⟩, HF3.out.2.2.1.fr G3 (fun b hb => ?_), fun b hb => ?_, rfl⟩, HF4.out.1.setCell _ _ (.inr (Nat.le_refl _)), fun q hq => ?_⟩
  · have := HF4.out.2.1.set 4 (.map (some w3.heap.size))
    rw [HTR.out] at this
    exact this
  · omega
  · omega
  · omega
  · omega
  · omega
  · have := k4 b hb; simp; omega
  · have e1 := k4 b hb; have e2 := hlw b hb; omega
  · simp only [List.mem_cons] at hq
    rcases hq with rfl | rfl | rfl | rfl | hq
    · omega
    · omega
    · omega
    · omega
    · have := k4 q hq; omega
end Go.Proofs.YthkkelkgfkehlaaGreat

/- ForestPlays: both forests, nil or with the same edges. -/
namespace Go.Proofs.YthkkelkgfkehlaaGreat
open Go.RowKit Classical
set_option maxRecDepth 10000
set_option maxHeartbeats 1600000

section
variable {Z : List (Nat × TypeId × List Value)} {W wr w1 w2 : World} {pf pr S V : Nat} {G G' : EMap} {v v' : Value} {l l' : List RE}
theorem BF.both {L L' : List Nat} (h1 : FO W wr pf S V G L) (h2 : RA wr pr V S v l) (h4 : pr ∉ L) (h5 : ∀ q, v.ownBlock = some q → q ∉ L) (h6 : W.heap.size ≤ pr) (h7 : ∀ q, v.ownBlock = some q → W.heap.size ≤ q)
    (h8 : ∀ z ∈ Z, Blk wr z.1 z.2.1 z.2.2 ∧ z.1 ∉ L ∧ z.1 ≠ pr ∧ v.ownBlock ≠ some z.1) (m1 : FO W w1 pf S V G' L') (m2 : Fr L wr w1) (m3 : ∀ q ∈ L', q ∈ L ∨ wr.heap.size ≤ q)
    (r1 : RA w2 pr V S v' l') (r2 : Reps G' l') (r3 : Fr (pr :: v.ownBlock.toList) w1 w2) (r4 : ∀ q, v'.ownBlock = some q → v.ownBlock = some q ∨ w1.heap.size ≤ q) : BF Z W w2 pf pr S V G' v' l' := by
  have e1 := h2.hd.lt
  have e2 : ∀ q, v.ownBlock = some q → q < wr.heap.size := fun q hq => ownsRow_lt h2.row hq
  have e3 := m2.size
  have e4 := h1.fr.size
  have n1 : pr ∉ L' := fun e => (m3 _ e).elim h4 (fun e => by omega)
  have n2 : ∀ q, v.ownBlock = some q → q ∉ L' := fun q hq e => (m3 _ e).elim (h5 q hq) (fun e => by have := e2 q hq; omega)
  refine ⟨L', m1.keep r3 (fun q hq hm => ?_) (fun q hq => ?_), r1, r2, n1, fun q hq hm => ?_, h6, fun q hq => ?_, fun z hz => ?_⟩
  · rcases List.mem_cons.1 hm with rfl | hm
    · exact n1 hq
    · exact n2 q (by simpa using hm) hq
  · rcases List.mem_cons.1 hq with rfl | hq
    · exact h6
    · exact h7 q (by simpa using hq)
  · rcases r4 q hq with e | e
    · exact n2 q e hm
    · have := m1.lt q hm; omega
  · rcases r4 q hq with e | e
    · exact h7 q e
    · omega
  · obtain ⟨z1, z2, z3, z4⟩ := h8 z hz
    have z5 := z1.lt
    refine ⟨r3.blk (m2.blk z1 z2) (fun hm => ?_), fun e => (m3 _ e).elim z2 (fun e => by omega), z3, fun e => ?_⟩
    · rcases List.mem_cons.1 hm with e | hm
      · exact z3 e
      · exact z4 (by simpa using hm)
    · rcases r4 _ e with e | e
      · exact z4 e
      · omega
theorem BF.add (h : BF Z W wr pf pr S V G v l) (s a b x : Int) (hx : -9223372036854775808 ≤ x ∧ x ≤ 9223372036854775807) :
    Calls Tryz.prog 7 #[fptr pf, .int .i64 s, .int .i64 a, .int .i64 b, .int .i64 x] wr fun e w1 => e = .returned (.int .i64 (addCode S V G s a b)) ∧ (∀ z ∈ Z, Blk w1 z.1 z.2.1 z.2.2) ∧
      Calls Tryz.prog 8 #[fptr pr, .int .i64 s, .int .i64 a, .int .i64 b, .int .i64 x] w1 fun e w2 => e = .returned (.int .i64 (addCode S V G s a b)) ∧ ∃ G' v' l', BF Z W w2 pf pr S V G' v' l' := by
  obtain ⟨L, h1, h2, h3, h4, h5, h6, h7, h8⟩ := h
  refine (fo_add h1 s a b x hx).mono ?_
  rintro _ w1 ⟨rfl, L', m1, m2, m3⟩
  refine ⟨rfl, fun z hz => m2.blk (h8 z hz).1 (h8 z hz).2.1, ?_⟩
  refine (radd_all (h2.fr m2 h4 h5) h3 h1.f.gw.1.slot s a b x).mono ?_
  rintro _ w2 ⟨rfl, v', l', r1, r2, r3, r4⟩
  exact ⟨rfl, _, v', l', BF.both h1 h2 h4 h5 h6 h7 h8 m1 m2 m3 r1 r2 r3 r4⟩
theorem BF.exp (h : BF Z W wr pf pr S V G v l) :
    Calls Tryz.prog 9 #[fptr pf] wr fun e w1 => e = .returned (.tuple #[.int .i64 ((fstG G).getD 0 : Nat), .bool (fstG G).isSome]) ∧
      Calls Tryz.prog 10 #[fptr pr] w1 fun e w2 => e = .returned (.tuple #[.int .i64 ((fstG G).getD 0 : Nat), .bool (fstG G).isSome]) ∧ ∃ G' v' l', BF Z W w2 pf pr S V G' v' l' := by
  obtain ⟨L, h1, h2, h3, h4, h5, h6, h7, h8⟩ := h
  refine (fo_exp h1).mono ?_
  rintro _ w1 ⟨rfl, L', m1, m2, m3⟩
  refine ⟨rfl, ?_⟩
  refine (rexp_all (h2.fr m2 h4 h5) h3).mono ?_
  rintro _ w2 ⟨rfl, v', l', r1, r2, r3, r4⟩
  exact ⟨rfl, _, v', l', BF.both h1 h2 h4 h5 h6 h7 h8 m1 m2 m3 r1 r2 (r3.mono (by simp)) r4⟩
theorem BF.copy (h : BF Z W wr pf pr S V G v l) :
    Calls Tryz.prog 11 #[fptr pf] wr fun e w1 => ∃ pf', e = .returned (fptr pf') ∧
      Calls Tryz.prog 12 #[fptr pr] w1 fun e w2 => ∃ pr', e = .returned (fptr pr') ∧ ∃ G' v' l', BF Z W w2 pf' pr' S V G' v' l' := by
  obtain ⟨L, h1, h2, h3, h4, h5, h6, h7, h8⟩ := h
  refine (fcopy_w h1.f).mono ?_
  rintro _ w1 ⟨pf', rfl, L', m1, m2, m3⟩
  refine ⟨pf', rfl, ?_⟩
  refine (rcopy36 (h2.fr0 m2)).mono ?_
  rintro _ w2 ⟨pr', rfl, v', r1, r2, r3, r4⟩
  have e1 := h1.fr.size
  have e2 := m2.size
  have e3 := r2.size
  have e4 := m1.lt
  refine ⟨pr', rfl, G, v', l, L', ⟨m1.fr r2 (by simp), (h1.fr.trans' m2).trans' r2, fun q hq => by have := m3 q hq; omega⟩, r1, h3, fun e => by have := e4 _ e; omega, fun q hq e => by have := e4 _ e; have := r4 q hq; omega, by omega, fun q hq => by have := r4 q hq; omega, fun z hz => ?_⟩
  obtain ⟨z1, z2, z3, z4⟩ := h8 z hz
  have z5 := z1.lt
  exact ⟨r2.blk (m2.blk z1 (by simp)) (by simp), fun e => by have := m3 _ e; omega, fun e => by omega, fun e => by have := r4 _ e; omega⟩
theorem BF.edges (h : BF Z W wr pf pr S V G v l) (hS : S ≤ 65536) :
    Calls Tryz.prog 15 #[fptr pf] wr fun e w1 => ∃ u, e = .returned u ∧
      Calls Tryz.prog 16 #[fptr pr] w1 fun e w2 => ∃ t, e = .returned t ∧
        Calls Tryz.prog 14 #[u, t] w2 fun e w3 => e = .returned (.bool true) ∧ BF Z W w3 pf pr S V G v l := by
  obtain ⟨L, h1, h2, h3, h4⟩ := id h
  refine (fo_edges h1).mono ?_
  rintro _ w1 ⟨u, rfl, q1, q2, q3, q4⟩
  refine ⟨u, rfl, ?_⟩
  refine (redges (h2.fr0 q4) h3).mono ?_
  rintro _ w2 ⟨t, rfl, r1, r2, r3⟩
  refine ⟨t, rfl, ?_⟩
  have hle : (treeL S G).length ≤ S := treeL_leG S G
  have hs := same_w (RowN.fr (show RowN w1 u (treeL S G) from q1) r3 (by simp)) r1 (by omega) (by omega)
  rw [decide_eq_true rfl] at hs
  refine hs.mono ?_
  rintro _ w3 ⟨rfl, k, rfl⟩
  exact ⟨rfl, h.keep ((q4.trans' r3).trans' ((Fr.refl _ _).drewN k))⟩
end

/-- Both forests: nil, or with the same edges; and blocks Z apart from both. -/
def PF (Z : List (Nat × TypeId × List Value)) (W wr : World) (qf qr : Option Addr) (S V : Nat) : Prop :=
  (qf = none ∧ qr = none ∧ Fr [] W wr ∧ ∀ z ∈ Z, Blk wr z.1 z.2.1 z.2.2) ∨ ∃ pf pr G v l, qf = some ⟨pf, 0, none⟩ ∧ qr = some ⟨pr, 0, none⟩ ∧ BF Z W wr pf pr S V G v l
section
variable {Z : List (Nat × TypeId × List Value)} {W wr w1 w2 : World} {qf qr : Option Addr} {S V : Nat}
theorem PF.blk (h : PF Z W wr qf qr S V) {b : Nat} {t : TypeId} {c : List Value} (hz : (b, t, c) ∈ Z) : Blk wr b t c := by
  rcases h with ⟨_, _, _, h⟩ | ⟨_, _, _, _, _, _, _, L, _, _, _, _, _, _, _, h⟩
  · exact h _ hz
  · exact (h _ hz).1
theorem PF.fr (h : PF Z W wr qf qr S V) : Fr [] W wr := by
  rcases h with ⟨_, _, h, _⟩ | ⟨_, _, _, _, _, _, _, h⟩
  · exact h
  · exact h.fr
theorem PF.drop (h : PF Z W wr qf qr S V) : PF [] W wr qf qr S V := by
  rcases h with ⟨h1, h2, h3, _⟩ | ⟨pf, pr, G, v, l, e1, e2, L, h1, h2, h3, h4, h5, h6, h7, h8⟩
  · exact .inl ⟨h1, h2, h3, fun z hz => by cases hz⟩
  · exact .inr ⟨pf, pr, G, v, l, e1, e2, L, h1, h2, h3, h4, h5, h6, h7, fun z hz => by cases hz⟩
theorem PF.keep (h : PF Z W wr qf qr S V) (hf : Fr [] wr w1) : PF Z W w1 qf qr S V := by
  rcases h with ⟨h1, h2, h3, h4⟩ | ⟨pf, pr, G, v, l, e1, e2, h⟩
  · exact .inl ⟨h1, h2, h3.trans' hf, fun z hz => hf.blk (h4 z hz) (by simp)⟩
  · exact .inr ⟨pf, pr, G, v, l, e1, e2, h.keep hf⟩
theorem PF.guest (h : PF Z W wr qf qr S V) (c : List Value) (t : TypeId) : PF [(wr.heap.size, t, c)] W (wr.alloc (.cells c.toArray t)) qf qr S V := by
  have hf : Fr [] wr (wr.alloc (.cells c.toArray t)) := (Fr.refl _ _).alloc _
  have hb := Blk.new wr c t
  rcases h with ⟨h1, h2, h3, h4⟩ | ⟨pf, pr, G, v, l, e1, e2, L, h1, h2, h3, h4, h5, h6, h7, h8⟩
  · exact .inl ⟨h1, h2, h3.trans' hf, fun z hz => by obtain rfl := List.mem_singleton.1 hz; exact hb⟩
  · refine .inr ⟨pf, pr, G, v, l, e1, e2, L, h1.keep0 hf, h2.fr0 hf, h3, h4, h5, h6, h7, fun z hz => ?_⟩
    obtain rfl := List.mem_singleton.1 hz
    exact ⟨hb, fun e => Nat.lt_irrefl _ (h1.lt _ e), fun e => by have := h2.hd.lt; simp only at e; omega, fun e => Nat.lt_irrefl _ (ownsRow_lt h2.row e)⟩
end
section
variable (w : World)
theorem rn_add (s a b x : Int) : Calls Tryz.prog 8 #[.pointer none, .int .i64 s, .int .i64 a, .int .i64 b, .int .i64 x] w fun e w' => e = .returned (.int .i64 1) ∧ w' = w := by
  go_enter Tryz.func8, Tryz.ntmps8
  go_wp2_with (go_at_call 30; refine (rn_valid w).mono ?_; rintro e w' ⟨rfl, rfl⟩)
  go_ret
  exact ⟨rfl, rfl⟩
theorem rn_exp : Calls Tryz.prog 10 #[.pointer none] w fun e w' => e = .returned (.tuple #[.int .i64 0, .bool false]) ∧ w' = w := by
  go_enter Tryz.func10, Tryz.ntmps10
  go_wp2_with (go_at_call 30; refine (rn_valid w).mono ?_; rintro e w' ⟨rfl, rfl⟩)
  go_ret2
  exact ⟨rfl, rfl⟩
theorem rn_copy : Calls Tryz.prog 12 #[.pointer none] w fun e w' => e = .returned (.pointer none) ∧ w' = w := by
  go_enter Tryz.func12, Tryz.ntmps12
  go_wp2_with (go_at_call 30; refine (rn_valid w).mono ?_; rintro e w' ⟨rfl, rfl⟩)
  go_ret
  exact ⟨rfl, rfl⟩
theorem rn_edges : Calls Tryz.prog 16 #[.pointer none] w fun e w' => e = .returned (.slice none 0 0) ∧ w' = w := by
  go_enter Tryz.func16, Tryz.ntmps16
  go_wp2_with (go_at_call 30; refine (rn_valid w).mono ?_; rintro e w' ⟨rfl, rfl⟩)
  go_ret
  exact ⟨rfl, rfl⟩
end
section
variable {Z : List (Nat × TypeId × List Value)} {W wr w1 w2 : World} {qf qr : Option Addr} {S V : Nat}
theorem pf_add (h : PF Z W wr qf qr S V) (s a b x : Int) (hx : -9223372036854775808 ≤ x ∧ x ≤ 9223372036854775807) :
    Calls Tryz.prog 7 #[.pointer qf, .int .i64 s, .int .i64 a, .int .i64 b, .int .i64 x] wr fun e w1 => ∃ c, e = .returned (.int .i64 c) ∧ (∀ z ∈ Z, Blk w1 z.1 z.2.1 z.2.2) ∧
      Calls Tryz.prog 8 #[.pointer qr, .int .i64 s, .int .i64 a, .int .i64 b, .int .i64 x] w1 fun e w2 => e = .returned (.int .i64 c) ∧ PF Z W w2 qf qr S V := by
  rcases h with ⟨rfl, rfl, h3, h4⟩ | ⟨pf, pr, G, v, l, rfl, rfl, h⟩
  · refine (bad_add (.inl rfl) s a b x).mono ?_
    rintro _ w1 ⟨rfl, rfl⟩
    refine ⟨1, rfl, h4, ?_⟩
    refine (rn_add w1 s a b x).mono ?_
    rintro _ w2 ⟨rfl, rfl⟩
    exact ⟨rfl, .inl ⟨rfl, rfl, h3, h4⟩⟩
  · refine (h.add s a b x hx).mono ?_
    rintro _ w1 ⟨rfl, h4, h5⟩
    refine ⟨_, rfl, h4, ?_⟩
    refine h5.mono ?_
    rintro _ w2 ⟨rfl, G', v', l', h6⟩
    exact ⟨rfl, .inr ⟨pf, pr, G', v', l', rfl, rfl, h6⟩⟩
theorem pf_exp (h : PF Z W wr qf qr S V) :
    Calls Tryz.prog 9 #[.pointer qf] wr fun e w1 => ∃ c d, e = .returned (.tuple #[.int .i64 c, .bool d]) ∧
      Calls Tryz.prog 10 #[.pointer qr] w1 fun e w2 => e = .returned (.tuple #[.int .i64 c, .bool d]) ∧ PF Z W w2 qf qr S V := by
  rcases h with ⟨rfl, rfl, h3, h4⟩ | ⟨pf, pr, G, v, l, rfl, rfl, h⟩
  · refine (bad_exp (.inl rfl)).mono ?_
    rintro _ w1 ⟨rfl, rfl⟩
    refine ⟨0, false, rfl, ?_⟩
    refine (rn_exp w1).mono ?_
    rintro _ w2 ⟨rfl, rfl⟩
    exact ⟨rfl, .inl ⟨rfl, rfl, h3, h4⟩⟩
  · refine h.exp.mono ?_
    rintro _ w1 ⟨rfl, h5⟩
    refine ⟨_, _, rfl, ?_⟩
    refine h5.mono ?_
    rintro _ w2 ⟨rfl, G', v', l', h6⟩
    exact ⟨rfl, .inr ⟨pf, pr, G', v', l', rfl, rfl, h6⟩⟩
theorem pf_copy (h : PF Z W wr qf qr S V) :
    Calls Tryz.prog 11 #[.pointer qf] wr fun e w1 => ∃ qf', e = .returned (.pointer qf') ∧
      Calls Tryz.prog 12 #[.pointer qr] w1 fun e w2 => ∃ qr', e = .returned (.pointer qr') ∧ PF Z W w2 qf' qr' S V := by
  rcases h with ⟨rfl, rfl, h3, h4⟩ | ⟨pf, pr, G, v, l, rfl, rfl, h⟩
  · refine (bad_copy (.inl rfl)).mono ?_
    rintro _ w1 ⟨rfl, rfl⟩
    refine ⟨none, rfl, ?_⟩
    refine (rn_copy w1).mono ?_
    rintro _ w2 ⟨rfl, rfl⟩
    exact ⟨none, rfl, .inl ⟨rfl, rfl, h3, h4⟩⟩
  · refine h.copy.mono ?_
    rintro _ w1 ⟨pf', rfl, h5⟩
    refine ⟨_, rfl, ?_⟩
    refine h5.mono ?_
    rintro _ w2 ⟨pr', rfl, G', v', l', h6⟩
    exact ⟨_, rfl, .inr ⟨pf', pr', G', v', l', rfl, rfl, h6⟩⟩
theorem pf_agree (h : PF Z W wr qf qr S V) (a b s : Int) (hs : -9223372036854775808 ≤ s ∧ s ≤ 9223372036854775807) :
    Calls Tryz.prog 13 #[.pointer qf, .pointer qr, .int .i64 a, .int .i64 b, .int .i64 s] wr fun e w' => e = .returned (.bool true) ∧ PF Z W w' qf qr S V := by
  rcases h with ⟨rfl, rfl, h3, h4⟩ | ⟨pf, pr, G, v, l, rfl, rfl, h⟩
  · refine (agree_nil wr a b s).mono ?_
    rintro _ w1 ⟨rfl, h1⟩
    have hf := Fr.of_below h1
    exact ⟨rfl, .inl ⟨rfl, rfl, h3.trans' hf, fun z hz => hf.blk (h4 z hz) (by simp)⟩⟩
  · refine (agree_w h a b s hs).mono ?_
    rintro _ w2 ⟨rfl, h6⟩
    exact ⟨rfl, .inr ⟨pf, pr, G, v, l, rfl, rfl, h6⟩⟩
theorem pf_edges (h : PF Z W wr qf qr S V) (hS : S ≤ 65536) :
    Calls Tryz.prog 15 #[.pointer qf] wr fun e w1 => ∃ u, e = .returned u ∧
      Calls Tryz.prog 16 #[.pointer qr] w1 fun e w2 => ∃ t, e = .returned t ∧
        Calls Tryz.prog 14 #[u, t] w2 fun e w3 => e = .returned (.bool true) ∧ PF Z W w3 qf qr S V := by
  rcases h with ⟨rfl, rfl, h3, h4⟩ | ⟨pf, pr, G, v, l, rfl, rfl, h⟩
  · refine (bad_edges (.inl rfl)).mono ?_
    rintro _ w1 ⟨rfl, rfl⟩
    refine ⟨_, rfl, ?_⟩
    refine (rn_edges w1).mono ?_
    rintro _ w2 ⟨rfl, rfl⟩
    refine ⟨_, rfl, ?_⟩
    have hr : RowN w2 (.slice none 0 0) [] := ⟨rfl, .inl ⟨rfl, rfl⟩⟩
    have hs := same_w hr hr (by simp) (by simp)
    rw [decide_eq_true rfl] at hs
    refine hs.mono ?_
    rintro _ w3 ⟨rfl, k, rfl⟩
    have hf : Fr [] w2 (w2.drewN k) := (Fr.refl _ _).drewN k
    exact ⟨rfl, .inl ⟨rfl, rfl, h3.trans' hf, fun z hz => hf.blk (h4 z hz) (by simp)⟩⟩
  · refine (h.edges hS).mono ?_
    rintro _ w1 ⟨u, rfl, h5⟩
    refine ⟨u, rfl, ?_⟩
    refine h5.mono ?_
    rintro _ w2 ⟨t, rfl, h6⟩
    refine ⟨t, rfl, ?_⟩
    refine h6.mono ?_
    rintro _ w3 ⟨rfl, h7⟩
    exact ⟨rfl, .inr ⟨pf, pr, G, v, l, rfl, rfl, h7⟩⟩
end
theorem pf_new (W : World) (n m : Int) : Calls Tryz.prog 5 #[.int .i64 n, .int .i64 m] W fun e w1 => ∃ qf c, e = .returned (.tuple #[.pointer qf, .int .i64 c]) ∧
    Calls Tryz.prog 6 #[.int .i64 n, .int .i64 m] w1 fun e w2 => ∃ qr, e = .returned (.tuple #[.pointer qr, .int .i64 c]) ∧ PF [] W w2 qf qr (min m.toNat 16384) (min n.toNat 4096) := by
  by_cases hok : 0 ≤ n ∧ n ≤ 4096 ∧ 0 ≤ m ∧ m ≤ 16384
  · obtain ⟨n, rfl, hn⟩ : ∃ k : Nat, n = k ∧ k ≤ 4096 := ⟨n.toNat, by omega, by omega⟩
    obtain ⟨m, rfl, hm⟩ : ∃ k : Nat, m = k ∧ k ≤ 16384 := ⟨m.toNat, by omega, by omega⟩
    rw [Int.toNat_natCast, Int.toNat_natCast, Nat.min_eq_left hn, Nat.min_eq_left hm]
    refine (bf_new W n m hn hm).mono ?_
    rintro _ w1 ⟨pf, rfl, h1⟩
    refine ⟨_, _, rfl, ?_⟩
    refine h1.mono ?_
    rintro _ w2 ⟨pr, rfl, h2⟩
    exact ⟨_, rfl, .inr ⟨pf, pr, _, _, _, rfl, rfl, h2⟩⟩
  · refine (fnew_bad n m W hok).mono ?_
    rintro _ w1 ⟨rfl, rfl⟩
    refine ⟨none, 2, rfl, ?_⟩
    refine (rnew_bad n m w1 hok).mono ?_
    rintro _ w2 ⟨rfl, rfl⟩
    exact ⟨none, rfl, .inl ⟨rfl, rfl, Fr.refl _ _, fun z hz => by cases hz⟩⟩
end Go.Proofs.YthkkelkgfkehlaaGreat

/- ForestPlays: the walk. -/
namespace Go.Proofs.YthkkelkgfkehlaaGreat
open Go.RowKit Classical
set_option maxRecDepth 10000
set_option maxHeartbeats 3200000

theorem flat_stepF : Flat Tryz.prog 32 [.i .i64, .i .i64, .i .i64, .i .i64, .i .i64] := by
  refine Flat.struct Tryz.underlying32 (by kernel_rfl) (fun j k hj => ?_)
  have hi : Flat Tryz.prog 3 [.i .i64] := Flat.int Tryz.underlying3 (by kernel_rfl)
  have hk : Flat Tryz.prog 2 [.i .i64] := Flat.int Tryz.underlying2 (by kernel_rfl)
  match j, hj with
  | 0, hj => exact ⟨0, _, _, rfl, hi, by decide, hj⟩
  | 1, hj => exact ⟨1, _, _, rfl, hi, by decide, hj⟩
  | 2, hj => exact ⟨2, _, _, rfl, hi, by decide, hj⟩
  | 3, hj => exact ⟨3, _, _, rfl, hi, by decide, hj⟩
  | 4, hj => exact ⟨4, _, _, rfl, hk, by decide, hj⟩
  | j + 5, hj => simp at hj
/-- A step: what to do, a slot, two vertices, a time. -/
abbrev SP := Int × Int × Int × Int × Int
def i64r (x : Int) : Prop := -9223372036854775808 ≤ x ∧ x ≤ 9223372036854775807
/-- A slice of len steps reads z. -/
def StepsP (w : World) (a : Option Addr) (len : Nat) (z : Nat → SP) : Prop :=
  len ≤ 9223372036854775807 ∧ ∀ i, i < len → ∃ b off, a = some ⟨b, off, none⟩ ∧ b < w.heap.size ∧ w.cell? ⟨b, off + i * 5, none⟩ = some (.int .i64 (z i).1) ∧ w.cell? ⟨b, off + i * 5 + 1, none⟩ = some (.int .i64 (z i).2.1) ∧
    w.cell? ⟨b, off + i * 5 + 2, none⟩ = some (.int .i64 (z i).2.2.1) ∧ w.cell? ⟨b, off + i * 5 + 3, none⟩ = some (.int .i64 (z i).2.2.2.1) ∧ w.cell? ⟨b, off + i * 5 + 4, none⟩ = some (.int .i64 (z i).2.2.2.2) ∧ i64r (z i).2.1 ∧ i64r (z i).2.2.2.2
theorem StepsP.fr {w w' : World} {a : Option Addr} {len : Nat} {z : Nat → SP} (h : StepsP w a len z) (hb : Fr [] w w') : StepsP w' a len z := by
  refine ⟨h.1, fun i hi => ?_⟩
  obtain ⟨b, off, rfl, hlt, h0, h1, h2, h3, h4, h5⟩ := h.2 i hi
  exact ⟨b, off, rfl, Nat.lt_of_lt_of_le hlt hb.size, hb.cell h0 (by simp), hb.cell h1 (by simp), hb.cell h2 (by simp), hb.cell h3 (by simp), hb.cell h4 (by simp), h5⟩
theorem i64r_wf {x : Int} (h : (Lit.int .i64 x).wf = true) : i64r x := by
  have h : (decide ((-9223372036854775808 : Int) ≤ x) && decide (x ≤ 9223372036854775807)) = true := h
  simp only [Bool.and_eq_true, decide_eq_true_eq] at h
  exact h
theorem open_stepsP {H : Type} {enc : TypeId × Value → H} {W : World} {a : Option Addr} {len cap : Nat} {d : DataW H} {p : List MemPlace}
    (h : DataW.Trod enc Tryz.prog W 0 (fun _ => true) true 22 (.slice a len cap) d p) : ∃ z, StepsP W a len z := by
  obtain ⟨z, hz⟩ := open_flat Tryz.underlying22 flat_stepF (by decide) h
  have key : ∀ i, ∃ u : SP, i < len → z i 0 = .int .i64 u.1 ∧ z i 1 = .int .i64 u.2.1 ∧ z i 2 = .int .i64 u.2.2.1 ∧ z i 3 = .int .i64 u.2.2.2.1 ∧ z i 4 = .int .i64 u.2.2.2.2 ∧ i64r u.2.1 ∧ i64r u.2.2.2.2 := by
    intro i
    by_cases hi : i < len
    · obtain ⟨b, off, rfl, _, h1⟩ := hz.2 i hi
      obtain ⟨n0, e0, _⟩ := (h1 0 _ rfl).2
      obtain ⟨n1, e1, w1⟩ := (h1 1 _ rfl).2
      obtain ⟨n2, e2, _⟩ := (h1 2 _ rfl).2
      obtain ⟨n3, e3, _⟩ := (h1 3 _ rfl).2
      obtain ⟨n4, e4, w4⟩ := (h1 4 _ rfl).2
      exact ⟨(n0, n1, n2, n3, n4), fun _ => ⟨e0, e1, e2, e3, e4, i64r_wf w1, i64r_wf w4⟩⟩
    · exact ⟨(0, 0, 0, 0, 0), fun h => absurd h hi⟩
  obtain ⟨F, hF⟩ := Classical.axiomOfChoice key
  refine ⟨F, hz.1, fun i hi => ?_⟩
  obtain ⟨b, off, rfl, hb, h1⟩ := hz.2 i hi
  obtain ⟨e0, e1, e2, e3, e4, e5⟩ := hF i hi
  refine ⟨b, off, rfl, hb, ?_, ?_, ?_, ?_, ?_, e5⟩
  · rw [← e0]; exact (h1 0 _ rfl).1
  · rw [← e1]; exact (h1 1 _ rfl).1
  · rw [← e2]; exact (h1 2 _ rfl).1
  · rw [← e3]; exact (h1 3 _ rfl).1
  · rw [← e4]; exact (h1 4 _ rfl).1

theorem cells5 {w : World} {b : Nat} {t : TypeId} {v0 v1 v2 v3 v4 : Value} (h : Blk w b t [v0, v1, v2, v3, v4]) : w.cell? ⟨b, 0, none⟩ = some v0 ∧ w.cell? ⟨b, 1, none⟩ = some v1 ∧ w.cell? ⟨b, 2, none⟩ = some v2 ∧ w.cell? ⟨b, 3, none⟩ = some v3 ∧ w.cell? ⟨b, 4, none⟩ = some v4 :=
  ⟨h.cell 0, h.cell 1, h.cell 2, h.cell 3, h.cell 4⟩

theorem walk_forestPlays (W : World) (n : Int) (_ : (Lit.int .i64 n).wf = true) (m : Int) (_ : (Lit.int .i64 m).wf = true) (a : Option Addr) (len cap : Nat) (z : Nat → SP) (hz : StepsP W a len z) :
    Calls Tryz.prog 3 #[.int .i64 n, .int .i64 m, .slice a len cap] W fun e w' => e = .returned (.bool true) ∧ Below W.heap.size W w' := by
  have HWk := Lib.hid (fun w => works_w w)
  have hlen := hz.1
  by_cases hbig : n > 16 ∨ m > 40 ∨ 50 < len
  · clear hz
    by_cases h1 : n > 16
    · clear hbig
      go_enter Tryz.func3, Tryz.ntmps3
      go_wp2_with fail
      refine (HWk.out _).mono ?_
      rintro _ w2 ⟨rfl, hf⟩
      have HF := Lib.hid hf; clear hf
      go_wp2_with fail
      go_ret
      exact ⟨rfl, HF.out.below (by simp)⟩
    · by_cases h2 : m > 40
      · clear hbig
        have d1 : decide (n > 16) = false := decide_eq_false h1
        go_enter Tryz.func3, Tryz.ntmps3
        go_wp2_with fail
        refine (HWk.out _).mono ?_
        rintro _ w2 ⟨rfl, hf⟩
        have HF := Lib.hid hf; clear hf
        go_wp2_with fail
        go_ret
        exact ⟨rfl, HF.out.below (by simp)⟩
      · have h3 : 50 < len := by omega
        clear hbig
        have d1 : decide (n > 16) = false := decide_eq_false h1
        have d2 : decide (m > 40) = false := decide_eq_false h2
        have h3' : (50 : Int) < len := by omega
        go_enter Tryz.func3, Tryz.ntmps3
        go_wp2_with fail
        refine (HWk.out _).mono ?_
        rintro _ w2 ⟨rfl, hf⟩
        have HF := Lib.hid hf; clear hf
        go_wp2_with fail
        go_ret
        exact ⟨rfl, HF.out.below (by simp)⟩
  · have d1 : decide (n > 16) = false := decide_eq_false (by omega)
    have d2 : decide (m > 40) = false := decide_eq_false (by omega)
    have d3 : decide ((len : Int) > 50) = false := decide_eq_false (by omega)
    have d4 : ¬ 50 < len := by omega
    have HN := Lib.hid (pf_new W n m)
    have HZ := Lib.hid hz
    have hSS : min m.toNat 16384 ≤ 65536 := by omega
    have hl50 : len ≤ 50 := by omega
    clear hz hbig
    generalize min m.toNat 16384 = S at *
    generalize min n.toNat 4096 = V at *
    go_enter Tryz.func3, Tryz.ntmps3
    go_wp2_with fail
    refine HN.out.mono ?_
    rintro _ w1 ⟨qf, c, rfl, h1⟩
    have H1 := Lib.hid h1; clear h1 HN
    go_wp2_with fail
    refine H1.out.mono ?_
    rintro _ w2 ⟨qr, rfl, h2⟩
    have H2 := Lib.hid h2; clear h2 H1
    go_wp2_with fail
    clear d1 d2 d3 d4
    go_loopw [7, 9, 11] (fun x y i wr => ∃ (k : Nat) (qf qr : Option Addr), k ≤ len ∧ i = .int .i64 k ∧ x = .pointer qf ∧ y = .pointer qr ∧ Hid (PF [] W wr qf qr S V)) (fun _ _ i _ => len - (intOf i).toNat)
    case atStart => exact ⟨0, qf, qr, Nat.zero_le _, rfl, rfl, rfl, H2⟩
    case round =>
      clear H2
      obtain ⟨k, qf, qr, hk, rfl, rfl, rfl, HP⟩ := hrel
      by_cases hlt : k < len
      · have hlt' : (k : Int) < len := by omega
        have hw1 : IntKind.i64.wrap ((k : Int) + 1) = ((k + 1 : Nat) : Int) := by rw [show (k : Int) + 1 = ((k + 1 : Nat) : Int) by omega]; exact IntWalk.i64_in _ (by omega)
        obtain ⟨b, off, rfl, hb, q0, q1, q2, q3, q4, x1, x2⟩ := (HZ.out.fr HP.out.fr).2 k hlt
        generalize z k = zk at *
        obtain ⟨d, s, va, vb, ex⟩ := zk
        simp only at q0 q1 q2 q3 q4 x1 x2
        have HX1 := Lib.hid x1
        have HX2 := Lib.hid x2
        have HG := Lib.hid (HP.out.guest [.int .i64 d, .int .i64 s, .int .i64 va, .int .i64 vb, .int .i64 ex] 32)
        have HMM := Lib.hid (show (wr.heap.size, 32, [Value.int .i64 d, .int .i64 s, .int .i64 va, .int .i64 vb, .int .i64 ex]) ∈ [(wr.heap.size, 32, [Value.int .i64 d, .int .i64 s, .int .i64 va, .int .i64 vb, .int .i64 ex])] by simp)
        clear x1 x2 HP
        by_cases d0 : d = 0
        · subst d0
          have HA := Lib.hid (pf_add (HG.out.keep ((Fr.refl _ _).drew)) s va vb ex HX2.out)
          clear HG
          go_wp2_with fail
          go_region_held3 (fun w' => w'.cell? ⟨wr.heap.size, 1, none⟩ = some (.int .i64 s) ∧ w'.cell? ⟨wr.heap.size, 2, none⟩ = some (.int .i64 va) ∧ w'.cell? ⟨wr.heap.size, 3, none⟩ = some (.int .i64 vb) ∧ w'.cell? ⟨wr.heap.size, 4, none⟩ = some (.int .i64 ex))
            (first
              | go_keep
              | exact (cells5 (hk3 _ HMM.out)).2
              | exact (cells5 (hp4.blk HMM.out)).2)
            (first
              | (go_at_call 7; refine HA.out.mono ?_; rintro e w3 ⟨g, rfl, hk3, hp3⟩)
              | (go_at_call 8; refine hp3.mono ?_; rintro e w4 ⟨rfl, hp4⟩))
          have u3 : ((g : Int) != (g : Int)) = false := by simp
          have HP4 := Lib.hid hp4; clear hp4 hk3 hp3 HA
          have HB9 := (HP4).out.blk HMM.out
          obtain ⟨_, c1, c2, c3, _⟩ := cells5 HB9
          have HA9 := Lib.hid (pf_agree (HP4).out va vb s HX1.out)
          clear HB9
          go_wp2_with fail
          refine HA9.out.mono ?_
          rintro _ w5 ⟨rfl, h5⟩
          have HE9 := Lib.hid (pf_edges h5 hSS)
          clear h5 HA9 c1 c2 c3
          go_wp2_with fail
          refine HE9.out.mono ?_
          rintro _ w6 ⟨u9, rfl, h6⟩
          have H6 := Lib.hid h6; clear h6 HE9
          go_wp2_with fail
          refine H6.out.mono ?_
          rintro _ w7 ⟨t9, rfl, h7⟩
          have H7 := Lib.hid h7; clear h7 H6
          go_wp2_with fail
          refine H7.out.mono ?_
          rintro _ w8 ⟨rfl, h8⟩
          have H8 := Lib.hid h8.drop; clear h8 H7
          go_wp2_with fail
          go_roundw
          case rel => exact ⟨k + 1, qf, qr, by omega, rfl, rfl, rfl, H8⟩
          case measure => simp [intOf]; omega
        · have u0 : (d == 0) = false := beq_eq_false_iff_ne.2 d0
          clear d0
          by_cases d1 : d = 1
          · subst d1
            have HA := Lib.hid (pf_exp HG.out)
            clear HG
            go_wp2_with fail
            refine HA.out.mono ?_
            rintro _ w3 ⟨g, gb, rfl, h3⟩
            have H3 := Lib.hid h3; clear h3 HA
            go_wp2_with fail
            refine H3.out.mono ?_
            rintro _ w4 ⟨rfl, h4⟩
            have HP4 := Lib.hid h4; clear h4 H3
            have u3 : ((g : Int) != (g : Int)) = false := by simp
            have u4 : (gb != gb) = false := by simp
            have HB9 := (HP4).out.blk HMM.out
            obtain ⟨_, c1, c2, c3, _⟩ := cells5 HB9
            have HA9 := Lib.hid (pf_agree (HP4).out va vb s HX1.out)
            clear HB9
            go_wp2_with fail
            refine HA9.out.mono ?_
            rintro _ w5 ⟨rfl, h5⟩
            have HE9 := Lib.hid (pf_edges h5 hSS)
            clear h5 HA9 c1 c2 c3
            go_wp2_with fail
            refine HE9.out.mono ?_
            rintro _ w6 ⟨u9, rfl, h6⟩
            have H6 := Lib.hid h6; clear h6 HE9
            go_wp2_with fail
            refine H6.out.mono ?_
            rintro _ w7 ⟨t9, rfl, h7⟩
            have H7 := Lib.hid h7; clear h7 H6
            go_wp2_with fail
            refine H7.out.mono ?_
            rintro _ w8 ⟨rfl, h8⟩
            have H8 := Lib.hid h8.drop; clear h8 H7
            go_wp2_with fail
            go_roundw
            case rel => exact ⟨k + 1, qf, qr, by omega, rfl, rfl, rfl, H8⟩
            case measure => simp [intOf]; omega
          · have u1 : (d == 1) = false := beq_eq_false_iff_ne.2 d1
            clear d1
            by_cases d2 : d = 2
            · subst d2
              have HA := Lib.hid (pf_copy HG.out)
              clear HG
              go_wp2_with fail
              refine HA.out.mono ?_
              rintro _ w3 ⟨qf', rfl, h3⟩
              have H3 := Lib.hid h3; clear h3 HA
              go_wp2_with fail
              refine H3.out.mono ?_
              rintro _ w4 ⟨qr', rfl, h4⟩
              have HP4 := Lib.hid h4; clear h4 H3
              have HB9 := (HP4).out.blk HMM.out
              obtain ⟨_, c1, c2, c3, _⟩ := cells5 HB9
              have HA9 := Lib.hid (pf_agree (HP4).out va vb s HX1.out)
              clear HB9
              go_wp2_with fail
              refine HA9.out.mono ?_
              rintro _ w5 ⟨rfl, h5⟩
              have HE9 := Lib.hid (pf_edges h5 hSS)
              clear h5 HA9 c1 c2 c3
              go_wp2_with fail
              refine HE9.out.mono ?_
              rintro _ w6 ⟨u9, rfl, h6⟩
              have H6 := Lib.hid h6; clear h6 HE9
              go_wp2_with fail
              refine H6.out.mono ?_
              rintro _ w7 ⟨t9, rfl, h7⟩
              have H7 := Lib.hid h7; clear h7 H6
              go_wp2_with fail
              refine H7.out.mono ?_
              rintro _ w8 ⟨rfl, h8⟩
              have H8 := Lib.hid h8.drop; clear h8 H7
              go_wp2_with fail
              go_roundw
              case rel => exact ⟨k + 1, qf', qr', by omega, rfl, rfl, rfl, H8⟩
              case measure => simp [intOf]; omega
            · have u2 : (d == 2) = false := beq_eq_false_iff_ne.2 d2
              clear d2
              have HB9 := (HG).out.blk HMM.out
              obtain ⟨_, c1, c2, c3, _⟩ := cells5 HB9
              have HA9 := Lib.hid (pf_agree (HG).out va vb s HX1.out)
              clear HB9
              go_wp2_with fail
              refine HA9.out.mono ?_
              rintro _ w5 ⟨rfl, h5⟩
              have HE9 := Lib.hid (pf_edges h5 hSS)
              clear h5 HA9 c1 c2 c3
              go_wp2_with fail
              refine HE9.out.mono ?_
              rintro _ w6 ⟨u9, rfl, h6⟩
              have H6 := Lib.hid h6; clear h6 HE9
              go_wp2_with fail
              refine H6.out.mono ?_
              rintro _ w7 ⟨t9, rfl, h7⟩
              have H7 := Lib.hid h7; clear h7 H6
              go_wp2_with fail
              refine H7.out.mono ?_
              rintro _ w8 ⟨rfl, h8⟩
              have H8 := Lib.hid h8.drop; clear h8 H7
              go_wp2_with fail
              go_roundw
              case rel => exact ⟨k + 1, qf, qr, by omega, rfl, rfl, rfl, H8⟩
              case measure => simp [intOf]; omega
      · obtain rfl : k = len := by omega
        go_wp2_with fail
        refine (HWk.out _).mono ?_
        rintro _ w6 ⟨rfl, hB⟩
        have HF := Lib.hid (HP.out.fr.trans' hB); clear hB
        go_wp2
        go_ret
        exact ⟨rfl, HF.out.below (by simp)⟩
end Go.Proofs.YthkkelkgfkehlaaGreat

namespace Go.Proofs.YthkkelkgfkehlaaGreat.forestPlays
open Go.ChangeShapes Go.WideShapes Go.ChangeAt Go.RowKit
set_option linter.unusedVariables false

theorem own : ownKnob Tryz.prog.godebug = none := by kernel_rfl
theorem laidOut : laidOutB Tryz.prog = true := by kernel_rfl

set_option maxRecDepth 100000 in
theorem lifted (os : Os) (started : os.Started) (H : Type) (enc : TypeId × Value → H) :
    ReturnsInHanded {} Tryz.checked os 3 .any (Rows.forestPlaysSpec.pre6 enc Tryz.prog Tryz.f3 Rows.forestPlaysRow.domain false) (Rows.forestPlaysSpec.post enc Tryz.prog Tryz.f3 false true false false) := by
  refine returnsInHanded_of_change (C := Tryz.checked) own started (by kernel_rfl) Tryz.func3
    (ChangeSpec.witness6 (enc := enc) (C := Tryz.checked) false ⟨#[], #[.int .i64 0, .int .i64 0, .slice none 0 0], []⟩ 8 (by kernel_rfl) (by kernel_rfl) (by kernel_rfl) (by kernel_rfl)) ?_
  intro W base args ds gs before hval0 hW hcnd _
  have hval : ∀ (j : Nat) t v, Tryz.f3.params[j]? = some t → args[j]? = some v → Value.okWide Tryz.prog W .any base t v := hval0
  have hW' := hW
  obtain ⟨p, q, hA0, hV, rfl, hfz, hnd⟩ := hW
  have hA : DataW.TrodAll enc Tryz.prog W 0 (fun _ => true) true Tryz.f3.params.toList args.toList ds p := hA0
  rw [Tryz.params3] at hA hval
  obtain ⟨v0, vs0, d0, ds0, p0, q0, hargs, rfl, rfl, h0, r0⟩ := trodAll_cons hA
  obtain ⟨v1, vs1, d1, ds1, p1, q1, rfl, rfl, rfl, h1, r1⟩ := trodAll_cons r0
  obtain ⟨v2, vs2, d2, ds2, p2, q2, rfl, rfl, rfl, h2, r2⟩ := trodAll_cons r1
  obtain ⟨rfl, rfl, rfl⟩ := trodAll_nil r2
  obtain rfl : args = #[v0, v1, v2] := by cases args; simp_all
  obtain ⟨rfl, rfl⟩ := trodVars_none hV
  obtain ⟨a0, rfl, rfl, rfl, w0⟩ := open_int Tryz.underlying3 (hval 0 3 v0 rfl rfl) h0
  obtain ⟨a1, rfl, rfl, rfl, w1⟩ := open_int Tryz.underlying3 (hval 1 3 v1 rfl rfl) h1
  obtain ⟨a2, len2, cap2, rfl⟩ := okWide_slice Tryz.underlying22 (hval 2 22 v2 rfl rfl)
  have k2 := h2
  have lt2 : ∀ x ∈ p2, x.block < W.heap.size := by obtain ⟨m, hm⟩ := k2; exact DataW.trod_lt m _ _ _ hm
  obtain ⟨z2, w2⟩ := open_stepsP h2
  clear hA0 hval0
  refine (walk_forestPlays W a0 w0 a1 w1 a2 len2 cap2 z2 w2).mono fun e W' ⟨he, bel⟩ => ?_
  subst he
  exact ⟨_, rfl, _, _, _, [], _, [], hW', trodAll_mk1 (shut_bool Tryz.underlying4 _), (trodAll_cons_mk (shut_int Tryz.underlying3 w0) (trodAll_cons_mk (shut_int Tryz.underlying3 w1) (trodAll_cons_mk (Below.trod laidOut (by kernel_rfl) (of_decide_eq_true (by kernel_rfl)) k2 bel lt2) trodAll_mk0))), rfl, bel.frame _, fun h => by cases h⟩

theorem over : Rows.forestPlaysRow.holds Tryz.pinned (OpenSpec.ofChange Rows.forestPlaysSpec) :=
  OpenClaim.holds_of_wide 3 Tryz.f3 rfl rfl rfl rfl rfl rfl rfl ⟨rfl, rfl, rfl, rfl, rfl⟩ rfl rfl rfl rfl rfl (by kernel_rfl) Tryz.func3 (by kernel_rfl)
    (of_decide_eq_true (by kernel_rfl)) (by unfold Func.isWrapper; first | (rw [if_pos (by decide +kernel)]; kernel_rfl) | (rw [if_neg (by decide +kernel)]; exact ⟨rfl, rfl⟩))
    (fun os started H enc _ => lifted os started H enc)

end Go.Proofs.YthkkelkgfkehlaaGreat.forestPlays

namespace Go.Proofs.YthkkelkgfkehlaaGreat
theorem forestPlays_holds : Rows.ForestPlaysSaid := forestPlays.over
#print axioms forestPlays_holds
end Go.Proofs.YthkkelkgfkehlaaGreat
