/- The statement 'ForestCopies': for every input the call returns true, and each argument reads afterwards as it read before. -/
import Derived.Deep.RegionHeld3
import Derived.Shelf.SlGeneric
import Derived.Ground.SlgnProg
import Derived.Shelf.SlicesE.Clone
import Derived.Test.YthkkelkgfkehlaaB8
import Derived.Deep.WholeRow
import Derived.StillTailTactics
import Derived.Test.YthkkelkgfkehlaaB11
import Derived.Ground.SlmcProg
import Derived.Shelf.SlMaps.Clone
import Derived.Test.YthkkelkgfkehlaaB14
import Derived.Test.YthkkelkgfkehlaaB15
import Derived.Test.YthkkelkgfkehlaaB1
/- lct: Copy. -/
namespace Go.Proofs.Ythkkelkgfkehlaa
open Go.RowKit Classical
set_option maxRecDepth 10000
set_option maxHeartbeats 800000

def Try.laysClone_ren : Go.Shelf.Ren := ⟨fun | 41 => 66 | n => n, fun | 22 => 89 | 23 => 88 | 4 => 4 | n => n, fun | n => n⟩
theorem Try.laysClone : Go.Proofs.SlLaysE0.n41 Try.prog Try.laysClone_ren := {
  mixed := by kernel_rfl
  f41 := ⟨Try.f66.name, by decide, Try.func66.trans (congrArg some (by kernel_rfl))⟩
  t4 := Try.underlying4
  a4 := Try.isAgg4
  z4 := Try.sizeOf4
  v4 := Try.zeroValue4
  t22 := Try.underlying89
  a22 := Try.isAgg89
  z22 := Try.sizeOf89
  v22 := Try.zeroValue89 }

theorem fv_one (n : Nd) (f : Nat) : (fv n f).oneCell' = true := by
  match f with
  | 0 | 1 | 2 | 3 | 4 | 5 | 6 | 7 => rfl
  | _ + 8 => rfl

theorem clone_w {w : World} {g N cap : Nat} {σ : Tbl} (h : NodesAt w g N σ) (hN : N ≤ 65537) (h0 : 0 < N) :
    Calls Try.prog 66 #[.slice (some ⟨g, 0, none⟩) N cap] w fun e w' => ∃ g' cap', e = .returned (.slice (some ⟨g', 0, none⟩) N cap') ∧ N ≤ cap' ∧ NodesAt w' g' N σ ∧ w.heap.size ≤ g' ∧ Fr [] w w' := by
  obtain ⟨i0, hi, hz0, hz1, hz2⟩ := info_parts Try.info88
  obtain ⟨arr, ha, hs, hc⟩ := h
  have hl : (arr.toList.take (N * 9)).length = N * 9 := by simp; omega
  have hat : ∀ j u, (arr.toList.take (N * 9))[j]? = some u → j < N * 9 ∧ arr[j]? = some u := by
    intro j u hj
    rw [List.getElem?_take] at hj
    split at hj
    · exact ⟨by assumption, by simpa using hj⟩
    · cases hj
  refine (AnyE.slices_Clone Try.laysClone i0 ndv 9 72 hi hz0 hz1 hz2 (by rw [ndv_cells]; rfl) (by decide) Try.sizeOf88 g 0 N cap (arr.toList.take (N * 9)) w hl (by unfold maxLen; omega) (by omega) (fun j u hj => by
      have := (hat j u hj).2
      simp [World.cell?, ha, this]) (fun u hu => by
      obtain ⟨j, hj⟩ := List.mem_iff_getElem?.1 hu
      obtain ⟨h1, h2⟩ := hat j u hj
      have := hc (j / 9) (by omega) (j % 9) (Nat.mod_lt _ (by decide))
      rw [show j / 9 * 9 + j % 9 = j by omega, h2] at this
      cases this; exact fv_one _ _)).mono ?_
  rintro _ w' ⟨v, rfl, ⟨_, hv⟩, hn, hB⟩
  rcases hv with ⟨rfl, _⟩ | ⟨g', cap', cur, rfl, hg, hcur, hcap, _, hsz, htk⟩
  · exact absurd rfl hn
  · refine ⟨g', cap', rfl, hcap, ⟨cur, hcur, by omega, fun i hi f hf => ?_⟩, hg, Fr.of_below hB⟩
    rw [← hc i hi f hf]
    have h1 : (cur.toList.take (N * 9))[i * 9 + f]? = cur[i * 9 + f]? := by rw [List.getElem?_take, if_pos (by omega)]; simp
    have h2 : (arr.toList.take (N * 9))[i * 9 + f]? = arr[i * 9 + f]? := by rw [List.getElem?_take, if_pos (by omega)]; simp
    rw [← h1, ← h2, htk]

theorem copy_w {w : World} {pf g n : Nat} {E : Nat → Nat → Prop} {key : Nat → Int} (h : LM w pf g n E key) :
    Calls Try.prog 46 #[.pointer (some ⟨pf, 0, none⟩)] w fun e w' => ∃ pf' g', e = .returned (.pointer (some ⟨pf', 0, none⟩)) ∧ LM w' pf' g' n E key ∧ Fr [] w w' ∧ w.heap.size ≤ pf' ∧ w.heap.size ≤ g' := by
  have H := Lib.hid h
  obtain ⟨cap, σ, F, par, d, rt, hL, hF, hE, hk⟩ := h
  have hN := hL.le
  have HR := Lib.hid (And.intro hF (And.intro hE hk)); clear hF hE hk
  have c1 := hL.hd.cell 1
  have c2 := hL.hd.cell 2
  simp only [List.getElem?_cons_zero, List.getElem?_cons_succ] at c1 c2
  have hpf := hL.hd.lt
  have HL := Lib.hid hL
  go_enter Try.func46, Try.ntmps46
  go_wp2_with fail
  refine (valid_w (hL.hd.cell 0)).mono ?_
  rintro _ w1 ⟨rfl, rfl⟩
  have HC := Lib.hid (clone_w (cap := cap) (hL.nodes.eqv (Eqv.drew w1)) hN (by omega))
  generalize hed : (n : Int) - nc n E = ed at *
  go_wp2
  go_region_held3 (fun w' => w'.cell? ⟨pf, 1, none⟩ = some (.slice (some ⟨g, 0, none⟩) (n + 1) cap) ∧ w'.cell? ⟨pf, 2, none⟩ = some (.int .i64 ed))
    (first
      | go_keep
      | (exact ⟨hF3.cell (by assumption) (by simp), hF3.cell (by assumption) (by simp)⟩))
    (first
      | (go_at_call 66; refine HC.out.mono ?_; rintro e w3 ⟨g', cap', rfl, hcap', hNd', hg', hF3⟩))
  go_wp2
  go_ret
  have hlt := hNd'.lt
  have hsz := hF3.size
  have hsz2 : w1.drew.heap.size = w1.heap.size := rfl
  refine ⟨w3.heap.size, g', rfl, ?_, ((Fr.refl [] w1).drew.trans' hF3).alloc _, by omega, by omega⟩
  show LG _ _ _ _ _ _ ((n : Int) - nc n E)
  rw [hed]
  exact ⟨cap', σ, F, par, d, rt, ⟨Blk.new w3 [_, _, _] 91, hNd'.same (by rw [heap_alloc_old w3 _ hlt]), by omega, hN, hcap'⟩, HR.out.1, HR.out.2.1, HR.out.2.2⟩

end Go.Proofs.Ythkkelkgfkehlaa

/- heap: Copy. -/
namespace Go.Proofs.Ythkkelkgfkehlaa
open Go.RowKit
set_option maxRecDepth 10000
set_option maxHeartbeats 1600000

def Try.laysCloneE_ren : Go.Shelf.Ren := ⟨fun | 41 => 68 | n => n, fun | 22 => 98 | 23 => 68 | 4 => 4 | n => n, fun | n => n⟩
theorem Try.laysCloneE : Go.Proofs.SlLaysE0.n41 Try.prog Try.laysCloneE_ren := {
  mixed := by kernel_rfl
  f41 := ⟨Try.f68.name, by decide, Try.func68.trans (congrArg some (by kernel_rfl))⟩
  t4 := Try.underlying4
  a4 := Try.isAgg4
  z4 := Try.sizeOf4
  v4 := Try.zeroValue4
  t22 := Try.underlying98
  a22 := Try.isAgg98
  z22 := Try.sizeOf98
  v22 := Try.zeroValue98 }

theorem Try.sizeEnt : ∀ w, (Go.sizeOf 68).run Try.prog w = .ok 2 w := fun w => by kernel_rfl
theorem clone_ents {w : World} {v : Value} {n : Nat} {e : Nat → Nat × Int} (h : w.ownsRow 0 68 2 v n (entC n e)) (hn : n ≤ 65536) :
    Calls Try.prog 68 #[v] w fun r w' => ∃ v', r = .returned v' ∧ w'.ownsRow 0 68 2 v' n (entC n e) ∧ (∀ q, v'.ownBlock = some q → w.heap.size ≤ q) ∧ Fr [] w w' := by
  obtain ⟨i0, hi, hz0, hz1, hz2⟩ := info_parts Try.infoEnt
  rcases h.2 with ⟨rfl, rfl⟩ | ⟨g, cap, cur, rfl, hg, hcur, hnc, hcm, hcs, htk⟩
  · refine (AnyE.slices_Clone_nil Try.laysCloneE 0 0 w).mono ?_
    rintro _ _ ⟨rfl, rfl⟩
    exact ⟨_, rfl, h, fun q e => (by cases e), Fr.refl _ _⟩
  · refine (AnyE.slices_Clone Try.laysCloneE i0 (.agg #[.int .i64 0, .int .i64 0]) 2 16 hi hz0 hz1 hz2 rfl (by decide) Try.sizeEnt g 0 n cap (entC n e) w (entC_len n e) (by unfold maxLen; omega) (by omega) (fun j u hj => ?_) (fun u hu => ?_)).mono ?_
    · have hjl : j < n * 2 := by have := (List.getElem?_eq_some_iff.1 hj).1; rwa [entC_len] at this
      rw [← htk, List.getElem?_take, if_pos hjl] at hj
      simpa [World.cell?, hcur] using hj
    · simp only [entC, List.mem_flatMap, List.mem_range] at hu
      obtain ⟨k, _, hk⟩ := hu
      simp at hk
      rcases hk with rfl | rfl <;> rfl
    · rintro _ w' ⟨v', rfl, h1, _, hB⟩
      refine ⟨v', rfl, ⟨h1.1, h1.2.elim .inl (fun ⟨g, cap, cur, k1, _, k3⟩ => .inr ⟨g, cap, cur, k1, Nat.zero_le _, k3⟩)⟩, fun q hq => ?_, Fr.of_below hB⟩
      rcases h1.2 with ⟨rfl, _⟩ | ⟨g, cap, cur, rfl, hb, _⟩
      · cases hq
      · simp [Value.ownBlock] at hq; omega
theorem clone_ents' {w : World} {v : Value} {n : Nat} {e : Nat → Nat × Int} (h : w.ownsRow 0 68 2 v n (entC n e)) (hn : n ≤ 65536) :
    Calls Try.prog 68 #[v] w fun r w' => ∃ a c, r = .returned (.slice a n c) ∧ w'.ownsRow 0 68 2 (.slice a n c) n (entC n e) ∧ (∀ q, (Value.slice a n c).ownBlock = some q → w.heap.size ≤ q) ∧ Fr [] w w' := by
  refine (clone_ents h hn).mono ?_
  rintro r w' ⟨u, rfl, h1, h2, h3⟩
  obtain ⟨a, c, rfl⟩ := ownsRow_slice h1
  exact ⟨a, c, rfl, h1, h2, h3⟩

/-- The copy under way: c's block hc with the directory dr, the blocks bs' copied so far. -/
structure CS (w w' : World) (x : Value) (slots n m : Nat) (e : Nat → Nat × Int) (pl : Nat → Nat) (v : Value) (hc dr : Nat) (bs : Nat → Option Nat) : Prop where
  fr : Fr [] w w'
  hd : Blk w' hc 100 [x, .int .i64 slots, v, .slice (some ⟨dr, 0, none⟩) m m]
  it : w'.ownsRow 0 68 2 v n (entC n e)
  dir : Blk w' dr 107 ((List.range m).map fun k => optP (bs k))
  a1 : w.heap.size ≤ hc
  a2 : w.heap.size ≤ dr
  a3 : hc ≠ dr
  a4 : ∀ q, v.ownBlock = some q → w.heap.size ≤ q ∧ q ≠ hc ∧ q ≠ dr
  bl : ∀ k b, k < m → bs k = some b → Blk w' b 109 (blkC pl k) ∧ w.heap.size ≤ b ∧ b ≠ hc ∧ b ≠ dr ∧ v.ownBlock ≠ some b
  inj : ∀ k k' b, k < m → k' < m → bs k = some b → bs k' = some b → k = k'
theorem CS.self {w w' : World} {x y : Value} {slots n m : Nat} {e : Nat → Nat × Int} {pl : Nat → Nat} {v : Value} {hc dr : Nat} {bs : Nat → Option Nat} (h : CS w w' x slots n m e pl v hc dr bs) :
    CS w (w'.setCell ⟨hc, 0, none⟩ y) y slots n m e pl v hc dr bs :=
  ⟨h.fr.setCell _ _ (.inr h.a1), h.hd.set 0 _, ownsRow_other h.it _ _ (fun e => (h.a4 _ e).2.1 rfl), h.dir.other _ _ h.a3.symm, h.a1, h.a2, h.a3, h.a4,
    fun k b hk hb => by
      obtain ⟨k1, k2, k3, k4, k5⟩ := h.bl k b hk hb
      exact ⟨k1.other _ _ k3, k2, k3, k4, k5⟩, h.inj⟩
theorem CS.more {w w' : World} {x : Value} {slots n m : Nat} {e : Nat → Nat × Int} {pl : Nat → Nat} {v : Value} {hc dr : Nat} {bs : Nat → Option Nat} (h : CS w w' x slots n m e pl v hc dr bs) {k : Nat} (hk : k < m) (hb : bs k = none) :
    CS w ((w'.alloc (.cells (blkC pl k).toArray 109)).setCell ⟨dr, k, none⟩ (hptr w'.heap.size)) x slots n m e pl v hc dr (updB bs k w'.heap.size) := by
  have hnew := Blk.new w' (blkC pl k) 109
  have hl1 := h.hd.lt
  have hl2 := h.dir.lt
  have hle := h.fr.size
  refine ⟨(h.fr.alloc _).setCell _ _ (.inr h.a2), (h.hd.alloc _).other _ _ h.a3, ownsRow_other (h.it.alloc _) _ _ (fun e => (h.a4 _ e).2.2 rfl), ?_, h.a1, h.a2, h.a3, h.a4, fun j b hj hb' => ?_, fun j j' b hj hj' hb' hb2 => ?_⟩
  · have := (h.dir.alloc (.cells (blkC pl k).toArray 109)).set k (hptr w'.heap.size)
    have e1 : ((List.range m).map fun x => optP (bs x)).set k (hptr w'.heap.size) = (List.range m).map fun x => optP (updB bs k w'.heap.size x) := by
      apply List.ext_getElem?
      intro j
      by_cases hj : j < m
      · by_cases e2 : j = k
        · subst e2; rw [List.getElem?_set_self (by simpa using hj)]; simp [hj, updB_same, optP]
        · rw [List.getElem?_set_ne (by omega)]; simp [hj, updB_other e2]
      · rw [List.getElem?_eq_none (by simp; omega), List.getElem?_eq_none (by simp; omega)]
    rw [e1] at this; exact this
  · by_cases e2 : j = k
    · subst e2
      rw [updB_same] at hb'; cases hb'
      refine ⟨hnew.other _ _ (by simp; omega), hle, by omega, by omega, fun e3 => ?_⟩
      have := (h.it.lt _ e3).2; omega
    · rw [updB_other e2] at hb'
      obtain ⟨k1, k2, k3, k4, k5⟩ := h.bl j b hj hb'
      exact ⟨(k1.alloc _).other _ _ k4, k2, k3, k4, k5⟩
  · by_cases e2 : j = k
    · by_cases e3 : j' = k
      · omega
      · rw [updB_other e3] at hb2
        subst e2; rw [updB_same] at hb'; cases hb'
        have := (h.bl j' _ hj' hb2).1.lt; omega
    · rw [updB_other e2] at hb'
      by_cases e3 : j' = k
      · subst e3; rw [updB_same] at hb2; cases hb2
        have := (h.bl j _ hj hb').1.lt; omega
      · rw [updB_other e3] at hb2
        exact h.inj j j' b hj hj' hb' hb2

theorem hcopy_w {w : World} {ph slots n : Nat} {Q : Nat → Option Int} {l : List Nat} (h : HeapAt w ph slots Q n l) :
    Calls Try.prog 47 #[hptr ph] w fun r w' => ∃ ph', r = .returned (hptr ph') ∧ ∃ l', HeapAt w' ph' slots Q n l' ∧ Fr [] w w' ∧ ∀ b ∈ l', w.heap.size ≤ b := by
  obtain ⟨e, pl, v, gp, cp, bs, hm, hk, hp, hq, rfl⟩ := h
  obtain ⟨m, hmm⟩ : ∃ m, m = (slots + 63) / 64 := ⟨_, rfl⟩
  have hle := hm.le
  have hmk := fun w' => run_make_ptrs m w' (by omega)
  have c0 := hm.hd.cell 0
  have c1 := hm.hd.cell 1
  have c2 := hm.hd.cell 2
  have c3 := hm.hd.cell 3
  simp only [List.getElem?_cons_zero, List.getElem?_cons_succ, ← hmm] at c0 c1 c2 c3
  have HC := Lib.hid (fun (w' : World) (hf : Fr [] w w') => clone_ents' (ownsRow_same hm.items (fun k hk => hf.keep k (hm.items.lt k hk).2 (by simp))) hm.nb)
  have hml : m ≤ 1024 := by omega
  have HMm := Lib.hid hmm; clear hmm
  have HM := Lib.hid hm
  have HK := Lib.hid (And.intro hk (And.intro hp hq)); clear hk hp hq
  have HV := Lib.hid (hvalid_w hm)
  clear hm
  go_enter Try.func47, Try.ntmps47
  go_wp2_with fail
  refine HV.out.mono ?_
  rintro _ w ⟨rfl, rfl⟩
  have HQ := Lib.hid (HC.out w.drew (Fr.refl [] w).drew)
  go_wp2_with fail
  go_region_held3 (fun w' => w'.cell? ⟨ph, 1, none⟩ = some (.int .i64 slots) ∧ w'.cell? ⟨ph, 2, none⟩ = some v ∧ w'.cell? ⟨ph, 3, none⟩ = some (.slice (some ⟨gp, 0, none⟩) m cp))
    (first
      | go_keep
      | exact ⟨hF4.cell c1 (by simp), hF4.cell c2 (by simp), hF4.cell c3 (by simp)⟩
      | exact ⟨hF4.cell (((Fr.refl [] w).alloc _).drew.cell c1 (by simp)) (by simp), hF4.cell (((Fr.refl [] w).alloc _).drew.cell c2 (by simp)) (by simp), hF4.cell (((Fr.refl [] w).alloc _).drew.cell c3 (by simp)) (by simp)⟩)
    (first
      | (go_at_call 68; with_reducible refine HQ.out.mono ?_; rintro e w4 ⟨au, cu, rfl, hR4, hQ4, hF4⟩)
      | (go_at_call 68; refine (HC.out _ (((Fr.refl [] w).alloc _).drew)).mono ?_; rintro e w4 ⟨au, cu, rfl, hR4, hQ4, hF4⟩))
  focus
    have hb := Blk.new (w4.alloc (.cells ((List.range m).map fun k => optP ((fun _ => none : Nat → Option Nat) k)).toArray 107)) [.pointer none, .int .i64 slots, .slice au n cu, .slice (some ⟨w4.heap.size, 0, none⟩) m m] 100
    have hd := (Blk.new w4 ((List.range m).map fun k => optP ((fun _ => none : Nat → Option Nat) k)) 107).alloc (.cells [.pointer none, .int .i64 slots, .slice au n cu, .slice (some ⟨w4.heap.size, 0, none⟩) m m].toArray 100)
    rw [World.size_alloc] at hb
    have hle := hF4.size
    have hlq := hR4.lt
    have F : CS w _ _ slots n m e pl _ _ _ (fun _ => none) := ⟨(((Fr.refl [] w).drew.trans' hF4).alloc _).alloc _, hb, (hR4.alloc _).alloc _, hd, by simp at hle; omega, by simpa using hle, by omega, fun q hq => ⟨by simpa using hQ4 q hq, by have := (hlq q hq).2; omega, by have := (hlq q hq).2; omega⟩, fun k b _ h => (by cases h), fun k k' b _ _ h => (by cases h)⟩
    have HF := Lib.hid F
    clear hb hd hle hlq F hR4 hQ4 hF4
    generalize hw5 : (w4.alloc (.cells ((List.range m).map fun k => optP ((fun _ => none : Nat → Option Nat) k)).toArray 107)).alloc (.cells [.pointer none, .int .i64 slots, .slice au n cu, .slice (some ⟨w4.heap.size, 0, none⟩) m m].toArray 100) = w5 at *
    generalize w4.heap.size + 1 = hc at *
    generalize w4.heap.size = dr at *
    rename_i hHH
    clear hw5
  rotate_left
  focus
    have hb := Blk.new w4 [.pointer none, .int .i64 slots, .slice au n cu, .slice (some ⟨w.heap.size, 0, none⟩) m m] 100
    have hd := (hF4.blk (Blk.new w ((List.range m).map fun k => optP ((fun _ => none : Nat → Option Nat) k)) 107).drew (by simp)).alloc (.cells [.pointer none, .int .i64 slots, .slice au n cu, .slice (some ⟨w.heap.size, 0, none⟩) m m].toArray 100)
    have hle := hF4.size
    have hlq := hR4.lt
    have F : CS w _ _ slots n m e pl _ _ _ (fun _ => none) := ⟨((((Fr.refl [] w).alloc _).drew).trans' hF4).alloc _, hb, hR4.alloc _, hd, by simp at hle; omega, Nat.le_refl _, by simp at hle; omega, fun q hq => ⟨by have := hQ4 q hq; simp at this; omega, by have := (hlq q hq).2; omega, by have := hQ4 q hq; simp at this; omega⟩, fun k b _ h => (by cases h), fun k k' b _ _ h => (by cases h)⟩
    have HF := Lib.hid F
    clear hb hd hle hlq F hR4 hQ4 hF4
    generalize hw5 : w4.alloc (.cells [.pointer none, .int .i64 slots, .slice au n cu, .slice (some ⟨w.heap.size, 0, none⟩) m m].toArray 100) = w5 at *
    generalize w4.heap.size = hc at *
    generalize w.heap.size = dr at *
    rename_i hHH
    clear hw5
  all_goals
    have F2 := HF.out.self (y := hptr hc)
    have hx3 : w5.cell? ⟨ph, 3, none⟩ = some (.slice (some ⟨gp, 0, none⟩) m cp) := hHH.2.2
    have hne : ph ≠ hc := by have := HM.out.hd.lt; have := HF.out.a1; omega
    have s0 := HF.out.hd.cell 0
    have z0 := HF.out.hd.frozen 0
    simp only [List.getElem?_cons_zero] at s0
    have HF2 := Lib.hid F2
    clear F2 hHH HF
    go_wp2_with fail
    clear hx3 hne s0 z0
    generalize w5.setCell ⟨hc, 0, none⟩ (hptr hc) = w6 at *
    go_loopw [36] (fun si wr => ∃ (i : Nat) (bs' : Nat → Option Nat), i ≤ m ∧ si = .int .i64 i ∧ Hid (CS w wr (hptr hc) slots n m e pl (.slice au n cu) hc dr bs') ∧ Hid ((∀ k, k < i → (bs' k = none ↔ bs k = none)) ∧ ∀ k, i ≤ k → bs' k = none)) (fun si _ => m - (intOf si).toNat)
    case atStart => exact ⟨0, _, Nat.zero_le _, rfl, HF2, Lib.hid ⟨fun k h => by omega, fun _ _ => rfl⟩⟩
    case round =>
      clear HF2
      obtain ⟨i, bs', hi, rfl, HF, HN⟩ := hrel
      by_cases hlt : i < m
      · have hil : (i : Int) < m := by omega
        have hdc : wr.cell? ⟨gp, i, none⟩ = some (optP (bs i)) := HF.out.fr.cell (HM.out.dirAt (by rw [← HMm.out]; exact hlt)) (by simp)
        cases hbi : bs i with
        | none =>
          rw [hbi] at hdc
          simp only [optP, Option.map_none] at hdc
          have HB := Lib.hid hbi; clear hbi
          go_wp2
          go_roundw
          case rel => exact ⟨i + 1, bs', by omega, by go_num, HF, Lib.hid ⟨fun k hk => if h : k < i then HN.out.1 k h else by
            obtain rfl : k = i := by omega
            rw [HN.out.2 k (Nat.le_refl _), HB.out], fun k hk => HN.out.2 k (by omega)⟩⟩
          case measure => simp [intOf]; omega
        | some b =>
          rw [hbi] at hdc
          simp only [optP, Option.map_some] at hdc
          have HB := Lib.hid hbi; clear hbi
          have hcsr : Blk wr b 109 (blkC pl i) := HF.out.fr.blk (HM.out.some_ i b (by rw [← HMm.out]; exact hlt) HB.out) (by simp)
          obtain ⟨cs, hcs⟩ : ∃ cs, cs = blkC pl i := ⟨_, rfl⟩
          have hcl : cs.length = 64 := by rw [hcs]; simp [blkC]
          have hone : ∀ u ∈ cs, u.oneCell' = true := by
            intro u hu
            rw [hcs] at hu
            simp only [blkC, List.mem_map, List.mem_range] at hu
            obtain ⟨j, _, rfl⟩ := hu
            rfl
          have F3 := HF.out.more hlt (HN.out.2 i (Nat.le_refl _))
          have hFa := HF.out.hd.alloc (.cells cs.toArray 109)
          have hFd := HF.out.dir.alloc (.cells cs.toArray 109)
          rw [← hcs] at hcsr F3
          have c3 := hFa.cell 3
          have cd := hFd.cell i
          have zd := hFd.frozen i
          simp only [List.getElem?_cons_zero, List.getElem?_cons_succ] at c3
          have hcd : ((List.range m).map fun k => optP (bs' k))[i]? = some (optP (bs' i)) := by simp [hlt]
          rw [hcd] at cd
          generalize optP (bs' i) = od at *
          have HF3 := Lib.hid F3; clear F3 hFa hFd hcd
          have HCS := Lib.hid hcs; clear hcs
          have hinfo : (Try.prog.info? 109).map (·.size) = some cs.toArray.size := by
            have : (Try.prog.info? 109).map (·.size) = some 64 := by kernel_rfl
            rw [this]; simp [hcl]
          have hst := run_storeCells_new (P := Try.prog) wr 109 #[.int .i64 0, .int .i64 0, .int .i64 0, .int .i64 0, .int .i64 0, .int .i64 0, .int .i64 0, .int .i64 0, .int .i64 0, .int .i64 0, .int .i64 0, .int .i64 0, .int .i64 0, .int .i64 0, .int .i64 0, .int .i64 0, .int .i64 0, .int .i64 0, .int .i64 0, .int .i64 0, .int .i64 0, .int .i64 0, .int .i64 0, .int .i64 0, .int .i64 0, .int .i64 0, .int .i64 0, .int .i64 0, .int .i64 0, .int .i64 0, .int .i64 0, .int .i64 0, .int .i64 0, .int .i64 0, .int .i64 0, .int .i64 0, .int .i64 0, .int .i64 0, .int .i64 0, .int .i64 0, .int .i64 0, .int .i64 0, .int .i64 0, .int .i64 0, .int .i64 0, .int .i64 0, .int .i64 0, .int .i64 0, .int .i64 0, .int .i64 0, .int .i64 0, .int .i64 0, .int .i64 0, .int .i64 0, .int .i64 0, .int .i64 0, .int .i64 0, .int .i64 0, .int .i64 0, .int .i64 0, .int .i64 0, .int .i64 0, .int .i64 0, .int .i64 0] cs.toArray hinfo (by simp [hcl]) (by simpa using hone)
          go_wp2_with (refine wpList_load_row rfl 109 _ rfl b rfl 109 cs.toArray (0, 0) _ hcsr Try.underlying109 rfl hinfo ?_)
          go_roundw
          case rel =>
            refine ⟨i + 1, _, by omega, by go_num, HF3, Lib.hid ⟨fun k hk => ?_, fun k hk => ?_⟩⟩
            · by_cases h : k = i
              · subst h; rw [updB_same, HB.out]; simp
              · rw [updB_other h]; exact HN.out.1 k (by omega)
            · rw [updB_other (by omega)]; exact HN.out.2 k (by omega)
          case measure => simp [intOf]; omega
      · obtain rfl : i = m := by omega
        go_wp2
        go_ret
        refine ⟨hc, rfl, hB slots hc (.slice au n cu) dr bs', ⟨e, pl, .slice au n cu, dr, i, bs', ⟨by rw [← HMm.out]; exact HF.out.hd, HF.out.it, by rw [← HMm.out]; exact HF.out.dir, fun k b hk hb => (HF.out.bl k b (by rw [HMm.out]; exact hk) hb).1, fun k hk hb => HM.out.none_ k hk ((HN.out.1 k (by rw [HMm.out]; exact hk)).1 hb), hle, HM.out.nb, HM.out.pb, HF.out.a3, fun e => (HF.out.a4 _ e).2.1 rfl, fun e => (HF.out.a4 _ e).2.2 rfl, fun k b hk hb => (HF.out.bl k b (by rw [HMm.out]; exact hk) hb).2.2, fun k k' b hk hk' => HF.out.inj k k' b (by rw [HMm.out]; exact hk) (by rw [HMm.out]; exact hk')⟩, HK.out.1, HK.out.2.1, HK.out.2.2, rfl⟩, HF.out.fr, fun b hb => ?_⟩
        rcases mem_hB.1 hb with rfl | rfl | hb | ⟨k, hk, hb⟩
        · exact HF.out.a1
        · exact HF.out.a2
        · exact (HF.out.a4 _ hb).1
        · exact (HF.out.bl k b (by rw [HMm.out]; exact hk) hb).2.1
end Go.Proofs.Ythkkelkgfkehlaa

/- forest: Copy. -/
namespace Go.Proofs.Ythkkelkgfkehlaa
open Go.RowKit Classical
set_option maxRecDepth 10000
set_option maxHeartbeats 1600000

def Try.laysCloneM_ren : Go.Shelf.Ren := ⟨fun | 5 => 48 | 7 => 69 | n => n, fun | 23 => 58 | 25 => 3 | 3 => 65 | 4 => 4 | 20 => 20 | n => n, fun | n => n⟩
theorem Try.laysCloneM : Go.Proofs.SlLaysW.n5 Try.prog Try.laysCloneM_ren := {
  mixed := by kernel_rfl
  f5 := ⟨Try.f48.name, by decide, Try.func48.trans (congrArg some (by kernel_rfl))⟩
  f7 := Try.func69.trans (congrArg some (by kernel_rfl))
  t4 := Try.underlying4
  a4 := Try.isAgg4
  z4 := Try.sizeOf4
  v4 := Try.zeroValue4
  t20 := Try.underlying20
  a20 := Try.isAgg20
  z20 := Try.sizeOf20
  v20 := Try.zeroValue20
  t23 := Try.underlying58
  a23 := Try.isAgg58
  z23 := Try.sizeOf58
  v23 := Try.zeroValue58 }

theorem imap_clone {w : World} {mb n : Nat} {m : Int → Option Value} (h : IMap Try.prog 3 .i64 okA w mb m n) :
    Calls Try.prog 48 #[.map (some mb)] w fun e w' => e = .returned (.map (some w.heap.size)) ∧ IMap Try.prog 3 .i64 okA w' w.heap.size m n ∧ Fr [] w w' := by
  obtain ⟨D, h1, h2, h3, h4⟩ := h
  refine (AnyW.maps_Clone_owns Try.laysCloneM 3 (tokR okA) mb n D w h1).mono ?_
  rintro _ w' ⟨rfl, k1, _, hB⟩
  exact ⟨rfl, ⟨D, k1, h2, h3, h4⟩, Fr.of_below hB⟩

theorem fcopy_w {w : World} {pf S V : Nat} {G : EMap} {L : List Nat} (h : FAt w pf S V G L) : Calls Try.prog 27 #[fptr pf] w fun e w' => ∃ pf', e = .returned (fptr pf') ∧ ∃ L', FAt w' pf' S V G L' ∧ Fr [] w w' ∧ ∀ q ∈ L', w.heap.size ≤ q := by
  obtain ⟨pl, g, ph, mb, l, key, n, h1, hH, hD, rfl⟩ := h
  have hlt := h1.lt
  have hS := h1.leS
  have hV := h1.leV
  have c0 := h1.hd.cell 0
  have c1 := h1.hd.cell 1
  have c2 := h1.hd.cell 2
  have c3 := h1.hd.cell 3
  have c4 := h1.hd.cell 4
  have c5 := h1.hd.cell 5
  simp only [List.getElem?_cons_zero, List.getElem?_cons_succ] at c0 c1 c2 c3 c4 c5
  have HV := Lib.hid (fvalid_w h1)
  have H := Lib.hid h1; have HH := Lib.hid hH; have HD := Lib.hid hD
  have HC1 := Lib.hid (fun (w' : World) (hf : Fr [] w w') => copy_w (LG.fr h1.lct hf (by simp) (by simp)))
  have HC2 := Lib.hid (fun (w' : World) (hf : Fr [] w w') => hcopy_w (hH.fr hf (by simp)))
  have HC3 := Lib.hid (fun (w' : World) (hf : Fr [] w w') => imap_clone (h1.edges.same (hf.keep mb h1.edges.lt (by simp))))
  clear h1 hH hD
  obtain ⟨tr, htr⟩ : ∃ tr, tr = cntT S (isTree G) := ⟨_, rfl⟩
  rw [← htr] at c5
  have HTR := Lib.hid htr; clear htr
  go_enter Try.func27, Try.ntmps27
  go_wp2_with fail
  refine HV.out.mono ?_
  rintro _ w ⟨rfl, rfl⟩
  go_wp2_with fail
  have hFa : Fr [] w (w.alloc (.cells #[.int .i64 V, .int .i64 S, fptr pl, fptr ph, .map (some mb), .int .i64 tr] 60)) := (Fr.refl [] w).alloc _
  have hB0 : Blk (w.alloc (.cells #[.int .i64 V, .int .i64 S, fptr pl, fptr ph, .map (some mb), .int .i64 tr] 60)) w.heap.size 60 [.int .i64 V, .int .i64 S, fptr pl, fptr ph, .map (some mb), .int .i64 tr] := Blk.new w _ _
  refine (HC1.out _ hFa).mono ?_
  rintro _ w2 ⟨pl', g', rfl, hL2, hF2, hp2, hg2⟩
  have hb2 := hF2.blk hB0 (by simp)
  have d2 := hb2.cell 2
  have z2 := hb2.frozen 2
  simp only [List.getElem?_cons_zero, List.getElem?_cons_succ] at d2
  have hne : pf ≠ w.heap.size := by have := H.out.hd.lt; omega
  have e3 := (hFa.trans' hF2).cell c3 (by simp)
  have e4 := (hFa.trans' hF2).cell c4 (by simp)
  have HF2 := Lib.hid (And.intro (hFa.trans' hF2) (And.intro hb2 (And.intro hL2 (And.intro hp2 hg2))))
  clear hFa hB0 hF2 hb2 hL2 hp2 hg2
  go_wp2_with fail
  have hF2s : Fr [] w (w2.setCell ⟨w.heap.size, 2, none⟩ (fptr pl')) := HF2.out.1.setCell _ _ (.inr (Nat.le_refl _))
  refine (HC2.out _ hF2s).mono ?_
  rintro _ w3 ⟨ph', rfl, l', hH3, hF3, hl3⟩
  have hb3 := hF3.blk (HF2.out.2.1.set 2 (fptr pl')) (by simp)
  have d3 := hb3.cell 3
  have z3 := hb3.frozen 3
  simp only [List.set_cons_succ, List.set_cons_zero, List.getElem?_cons_zero, List.getElem?_cons_succ] at d3
  have f4 := (hF2s.trans' hF3).cell c4 (by simp)
  have HF3 := Lib.hid (And.intro (hF2s.trans' hF3) (And.intro hb3 (And.intro hH3 (And.intro hF3 hl3))))
  clear hF2s hF3 hb3 hH3 hl3 d2 z2 e3 e4
  go_wp2_with fail
  have hF3s : Fr [] w (w3.setCell ⟨w.heap.size, 3, none⟩ (hptr ph')) := HF3.out.1.setCell _ _ (.inr (Nat.le_refl _))
  refine (HC3.out _ hF3s).mono ?_
  rintro _ w4 ⟨rfl, hI4, hF4⟩
  have hb4 := hF4.blk (HF3.out.2.1.set 3 (hptr ph')) (by simp)
  have d4 := hb4.cell 4
  have z4 := hb4.frozen 4
  simp only [List.set_cons_succ, List.set_cons_zero, List.getElem?_cons_zero, List.getElem?_cons_succ] at d4
  rw [World.size_setCell] at hI4 ⊢
  have HF4 := Lib.hid (And.intro (hF3s.trans' hF4) (And.intro hb4 (And.intro hI4 hF4)))
  clear hF3s hF4 hb4 hI4
  go_wp2_with fail
  go_ret
  have G2 : Fr [w.heap.size] w2 (w4.setCell ⟨w.heap.size, 4, none⟩ (.map (some w3.heap.size))) := ((((Fr.refl [w.heap.size] w2).setCell _ _ (.inl (by simp))).trans' (HF3.out.2.2.2.1.mono (by simp))).setCell _ _ (.inl (by simp))).trans' (HF4.out.2.2.2.mono (by simp)) |>.setCell _ _ (.inl (by simp))
  have G3 : Fr [w.heap.size] w3 (w4.setCell ⟨w.heap.size, 4, none⟩ (.map (some w3.heap.size))) := ((((Fr.refl [w.heap.size] w3)).setCell _ _ (.inl (by simp))).trans' (HF4.out.2.2.2.mono (by simp))).setCell _ _ (.inl (by simp))
  have G4 : Fr [w.heap.size] w4 (w4.setCell ⟨w.heap.size, 4, none⟩ (.map (some w3.heap.size))) := (Fr.refl [w.heap.size] w4).setCell _ _ (.inl (by simp))
  have k1 := HF2.out.2.2.2
  simp only [World.size_alloc] at k1
  have k2 := HF2.out.1.size
  have k3 := HF3.out.2.2.2.1.size
  have k4 := HF3.out.2.2.2.2
  rw [World.size_setCell] at k3 k4
  have k5 := LG.lts HF2.out.2.2.1
  have k6 := HF2.out.2.1.lt
  have hlw := HF3.out.2.2.1.lt
  refine ⟨w.heap.size, rfl, _, ⟨pl', g', ph', w3.heap.size, l', key, n, ⟨?_, LG.fr HF2.out.2.2.1 G2 (by simp; omega) (by simp; omega), HF4.out.2.2.1.same (G4.keep _ HF4.out.2.2.1.lt (by simp; omega)), H.out.gw, H.out.keys, H.out.cn, hS, hV, ?_, ?_, ?_, ?_, ?_⟩, HF3.out.2.2.1.fr G3 (fun b hb => ?_), fun b hb => ?_, rfl⟩, HF4.out.1.setCell _ _ (.inr (Nat.le_refl _)), fun q hq => ?_⟩
  · have := HF4.out.2.1.set 4 (.map (some w3.heap.size))
    rw [HTR.out] at this
    exact this
  · omega
  · omega
  · omega
  · omega
  · omega
  · have := k4 b hb; simp; omega
  · have e1 := k4 b hb; have e2 := hlw b hb; omega
  · simp only [List.mem_cons] at hq
    rcases hq with rfl | rfl | rfl | rfl | hq
    · omega
    · omega
    · omega
    · omega
    · have := k4 q hq; omega
end Go.Proofs.Ythkkelkgfkehlaa

/- ForestCopies: the walk. -/
namespace Go.Proofs.Ythkkelkgfkehlaa
open Go.RowKit Classical
set_option maxRecDepth 10000
set_option maxHeartbeats 1600000

/-- Two forests apart from each other, and rows apart from both. -/
def CF (W wr : World) (pf pc S V : Nat) (G G2 : EMap) (R : List (Value × List Nat)) : Prop :=
  ∃ L L2, FO W wr pf S V G L ∧ FO W wr pc S V G2 L2 ∧ (∀ q ∈ L, q ∉ L2) ∧ ∀ r ∈ R, RowN wr r.1 r.2 ∧ ∀ q, r.1.ownBlock = some q → q ∉ L ∧ q ∉ L2
section
variable {W wr w' : World} {pf pc S V : Nat} {G G2 : EMap} {R : List (Value × List Nat)}
theorem CF.swap (h : CF W wr pf pc S V G G2 R) : CF W wr pc pf S V G2 G R := by
  obtain ⟨L, L2, h1, h2, h3, h4⟩ := h
  exact ⟨L2, L, h2, h1, fun q hq hm => h3 q hm hq, fun r hr => ⟨(h4 r hr).1, fun q hq => ((h4 r hr).2 q hq).symm⟩⟩
theorem CF.fr0 (h : CF W wr pf pc S V G G2 R) (hf : Fr [] wr w') : CF W w' pf pc S V G G2 R := by
  obtain ⟨L, L2, h1, h2, h3, h4⟩ := h
  exact ⟨L, L2, h1.keep0 hf, h2.keep0 hf, h3, fun r hr => ⟨(h4 r hr).1.fr hf (by simp), (h4 r hr).2⟩⟩
theorem CF.exp (h : CF W wr pf pc S V G G2 R) : Calls Try.prog 18 #[fptr pf] wr fun e w' => e = .returned (.tuple #[.int .i64 ((fstG G).getD 0 : Nat), .bool (fstG G).isSome]) ∧ CF W w' pf pc S V (popG G) G2 R := by
  obtain ⟨L, L2, h1, h2, h3, h4⟩ := h
  refine (fo_exp h1).mono ?_
  rintro e w' ⟨rfl, L', m1, m2, m3⟩
  refine ⟨rfl, L', L2, m1, h2.keep m2 (fun q hq hm => h3 q hm hq) h1.new, fun q hq hm => ?_, fun r hr => ⟨(h4 r hr).1.fr m2 (fun q hq => ((h4 r hr).2 q hq).1), fun q hq => ⟨fun hm => ?_, ((h4 r hr).2 q hq).2⟩⟩⟩
  · rcases m3 q hq with e | e
    · exact h3 q e hm
    · have := h2.lt q hm; omega
  · rcases m3 q hm with e | e
    · exact ((h4 r hr).2 q hq).1 e
    · have := ownsRow_lt (h4 r hr).1 hq; omega
theorem CF.edges (h : CF W wr pf pc S V G G2 R) : Calls Try.prog 20 #[fptr pf] wr fun e w' => ∃ v, e = .returned v ∧ CF W w' pf pc S V G G2 ((v, treeL S G) :: R) := by
  obtain ⟨L, L2, h1, h2, h3, h4⟩ := h
  refine (fo_edges h1).mono ?_
  rintro e w' ⟨v, rfl, r1, r2, r3, r4⟩
  refine ⟨v, rfl, L, L2, r3, h2.keep0 r4, h3, fun r hr => ?_⟩
  rcases List.mem_cons.1 hr with rfl | hr
  · exact ⟨r1, fun q hq => ⟨fun hm => by have := r2 q hq; have := h1.lt q hm; omega, fun hm => by have := r2 q hq; have := h2.lt q hm; omega⟩⟩
  · exact ⟨(h4 r hr).1.fr r4 (by simp), (h4 r hr).2⟩
theorem CF.count (h : CF W wr pf pc S V G G2 R) : Calls Try.prog 21 #[fptr pf] wr fun e w' => e = .returned (.int .i64 (compG V G)) ∧ CF W w' pf pc S V G G2 R := by
  have h0 := h
  obtain ⟨L, L2, h1, h2, h3, h4⟩ := h
  refine (fo_count h1).mono ?_
  rintro e w' ⟨rfl, r3, r4⟩
  exact ⟨rfl, h0.fr0 r4⟩
theorem CF.len (h : CF W wr pf pc S V G G2 R) : Calls Try.prog 25 #[fptr pf] wr fun e w' => e = .returned (.int .i64 (lenG S G)) ∧ CF W w' pf pc S V G G2 R := by
  have h0 := h
  obtain ⟨L, L2, h1, h2, h3, h4⟩ := h
  refine (fo_len h1).mono ?_
  rintro e w' ⟨rfl, r3, r4⟩
  exact ⟨rfl, h0.fr0 r4⟩
theorem CF.same (h : CF W wr pf pc S V G G2 R) {v u : Value} {p : List Nat} (hv : (v, p) ∈ R) (hu : (u, p) ∈ R) (hp : p.length ≤ 65536) : Calls Try.prog 19 #[v, u] wr fun e w' => e = .returned (.bool true) ∧ CF W w' pf pc S V G G2 R := by
  have h0 := h
  obtain ⟨L, L2, h1, h2, h3, h4⟩ := h
  have hs := same_w (h4 _ hv).1 (h4 _ hu).1 hp hp
  rw [decide_eq_true rfl] at hs
  refine hs.mono ?_
  rintro e w' ⟨rfl, k, rfl⟩
  exact ⟨rfl, h0.fr0 ((Fr.refl _ _).drewN k)⟩
theorem cf_copy {L : List Nat} {v : Value} {p : List Nat} (h : FO W wr pf S V G L) (hv : RowN wr v p) (hd : ∀ q, v.ownBlock = some q → q ∉ L) : Calls Try.prog 27 #[fptr pf] wr fun e w' => ∃ pc, e = .returned (fptr pc) ∧ CF W w' pf pc S V G G [(v, p)] := by
  refine (fcopy_w h.f).mono ?_
  rintro e w' ⟨pc, rfl, L2, r1, r2, r3⟩
  refine ⟨pc, rfl, L, L2, h.keep0 r2, ⟨r1, h.fr.trans' r2, fun q hq => Nat.le_trans h.fr.size (r3 q hq)⟩, fun q hq hm => ?_, fun r hr => ?_⟩
  · have := r3 q hm; have := h.lt q hq; omega
  · obtain rfl := List.mem_singleton.1 hr
    exact ⟨hv.fr r2 (by simp), fun q hq => ⟨hd q hq, fun hm => by have := r3 q hm; have := ownsRow_lt hv hq; omega⟩⟩
theorem CF.below (h : CF W wr pf pc S V G G2 R) : Fr [] W wr := by
  obtain ⟨L, L2, h1, _⟩ := h; exact h1.fr
end
theorem treeL_lenC (S : Nat) (G : EMap) : (treeL S G).length ≤ S := cntT_le S (isTree G)

theorem walk_forestCopies (W : World) (n : Int) (_ : (Lit.int .i64 n).wf = true) (a : Option Addr) (len cap : Nat) (z : Nat → Int × Int × Int) (hz : EdgesF W a len z) (x : Int) (hx : (Lit.int .u8 x).wf = true) :
    Calls Try.prog 9 #[.int .i64 n, .slice a len cap, .int .u8 x] W fun e w' => e = .returned (.bool true) ∧ Below W.heap.size W w' := by
  have HS := Lib.hid (small_w36 W n a len cap hz.1)
  have HWk := Lib.hid (fun w => works_w w)
  obtain ⟨few, rfl, hfew⟩ : ∃ m : Nat, x = m ∧ m ≤ 255 := by
    have h2 : (decide ((0 : Int) ≤ x) && decide (x ≤ 255)) = true := hx
    simp only [Bool.and_eq_true, decide_eq_true_eq] at h2
    exact ⟨x.toNat, by omega, by omega⟩
  clear hx
  cases hsm : smallF n len with
  | false =>
    rw [hsm] at HS
    clear hz hsm
    go_enter Try.func9, Try.ntmps9
    go_wp2_with fail
    refine HS.out.mono ?_
    rintro _ w1 ⟨rfl, rfl⟩
    go_wp2_with fail
    refine (HWk.out _).mono ?_
    rintro _ w2 ⟨rfl, hf⟩
    have HF := Lib.hid hf; clear hf
    go_wp2_with fail
    go_ret
    exact ⟨rfl, HF.out.below (by simp)⟩
  | true =>
    rw [hsm] at HS
    obtain ⟨n, rfl, hn, hl⟩ : ∃ m : Nat, n = m ∧ m ≤ 30 ∧ len ≤ 80 := by
      unfold smallF at hsm
      simp only [Bool.and_eq_true, decide_eq_true_eq] at hsm
      exact ⟨n.toNat, by omega, by omega, hsm.2.2⟩
    have HG1 := Lib.hid (grown_w36 W W (Fr.refl _ _) n hn a len cap hl z hz false)
    clear hz hsm
    go_enter Try.func9, Try.ntmps9
    go_wp2_with fail
    refine HS.out.mono ?_
    rintro _ W ⟨rfl, rfl⟩
    go_wp2_with fail
    refine HG1.out.mono ?_
    rintro _ w1 ⟨pf, tb, rfl, L, hO, hF, hQ, _⟩
    have HOl := Lib.hid hO.lt
    have A1 := Lib.hid (fo_edges hO)
    clear hO hF hQ HG1
    generalize EG len n z (fun _ => True) = G at *
    go_wp2_with fail
    refine A1.out.mono ?_
    rintro _ w2 ⟨v, rfl, r1, r2, r3, r4⟩
    have A2 := Lib.hid (cf_copy r3 (show RowN w2 v (treeL len G) from r1) (fun q hq hm => by have := r2 q hq; have := HOl.out q hm; omega))
    clear A1 r1 r2 r3 r4
    go_wp2_with fail
    refine A2.out.mono ?_
    rintro _ w3 ⟨pc, rfl, h3⟩
    have A3 := Lib.hid h3.swap.edges
    clear h3 A2
    go_wp2_with fail
    refine A3.out.mono ?_
    rintro _ w4 ⟨u, rfl, h4⟩
    have A4 := Lib.hid (h4.same (v := u) (u := v) (p := treeL len G) (by simp) (by simp) (by have := treeL_lenC len G; omega))
    clear h4 A3
    go_wp2_with fail
    refine A4.out.mono ?_
    rintro _ w5 ⟨rfl, h5⟩
    have A5 := Lib.hid h5.count
    clear h5 A4
    go_wp2_with fail
    refine A5.out.mono ?_
    rintro _ w6 ⟨rfl, h6⟩
    have A6 := Lib.hid h6.swap.count
    clear h6 A5
    generalize compG n G = cc at *
    go_wp2_with fail
    refine A6.out.mono ?_
    rintro _ w7 ⟨rfl, h7⟩
    have A7 := Lib.hid h7.swap.len
    clear h7 A6
    go_wp2_with fail
    refine A7.out.mono ?_
    rintro _ w8 ⟨rfl, h8⟩
    have A8 := Lib.hid h8.swap.len
    clear h8 A7
    generalize lenG len G = ll at *
    go_wp2_with fail
    refine A8.out.mono ?_
    rintro _ w9 ⟨rfl, h9⟩
    have H9 := Lib.hid h9
    clear h9 A8
    go_wp2_with fail
    go_loopw [11] (fun x wr => ∃ (k : Nat) (G2 : EMap), k ≤ few ∧ x = .int .i64 k ∧ Hid (CF W wr pf pc len n G G2 [(u, treeL len G), (v, treeL len G)])) (fun x _ => few - (intOf x).toNat)
    case atStart => exact ⟨0, G, Nat.zero_le _, rfl, H9⟩
    case round =>
      clear H9
      obtain ⟨k, G2, hk, rfl, H⟩ := hrel
      have hwf : IntKind.i64.wrap (few : Int) = few := IntWalk.i64_in _ (by omega)
      by_cases hlt : k < few
      · have hlt' : (k : Int) < few := by omega
        have hw3 : IntKind.i64.wrap ((k : Int) + 1) = ((k + 1 : Nat) : Int) := by rw [show (k : Int) + 1 = ((k + 1 : Nat) : Int) by omega]; exact IntWalk.i64_in _ (by omega)
        have B1 := Lib.hid H.out.swap.exp
        generalize (fstG G2).getD 0 = m1 at *
        generalize (fstG G2).isSome = m2 at *
        go_wp2_with fail
        refine B1.out.mono ?_
        rintro _ wx ⟨rfl, h1⟩
        have HX := Lib.hid h1.swap; clear h1 B1
        go_wp2_with fail
        go_roundw
        case rel => exact ⟨k + 1, _, by omega, rfl, HX⟩
        case measure => simp [intOf]; omega
      · obtain rfl : k = few := by omega
        have B1 := Lib.hid H.out.edges
        go_wp2_with fail
        refine B1.out.mono ?_
        rintro _ w1 ⟨v1, rfl, h1⟩
        have B2 := Lib.hid (h1.same (v := v1) (u := v) (p := treeL len G) (by simp) (by simp) (by have := treeL_lenC len G; omega))
        clear h1 B1
        go_wp2_with fail
        refine B2.out.mono ?_
        rintro _ w2 ⟨rfl, h1⟩
        have B3 := Lib.hid h1.swap.edges
        clear h1 B2
        go_wp2_with fail
        refine B3.out.mono ?_
        rintro _ w3 ⟨v2, rfl, h1⟩
        have B4 := Lib.hid h1.swap.exp
        clear h1 B3
        generalize (fstG G).getD 0 = m1 at *
        generalize (fstG G).isSome = m2 at *
        go_wp2_with fail
        refine B4.out.mono ?_
        rintro _ w4 ⟨rfl, h1⟩
        have B5 := Lib.hid h1.exp
        clear h1 B4
        generalize (fstG (popG G)).getD 0 = m3 at *
        generalize (fstG (popG G)).isSome = m4 at *
        go_wp2_with fail
        refine B5.out.mono ?_
        rintro _ w5 ⟨rfl, h1⟩
        have B6 := Lib.hid h1.swap.edges
        clear h1 B5
        go_wp2_with fail
        refine B6.out.mono ?_
        rintro _ w6 ⟨v3, rfl, h1⟩
        have B7 := Lib.hid (h1.same (v := v3) (u := v2) (p := treeL len G2) (by simp) (by simp) (by have := treeL_lenC len G2; omega))
        clear h1 B6
        go_wp2_with fail
        refine B7.out.mono ?_
        rintro _ w7 ⟨rfl, h1⟩
        have H7 := Lib.hid h1.below
        clear h1 B7
        go_wp2_with fail
        refine (HWk.out _).mono ?_
        rintro _ w8 ⟨rfl, hf⟩
        have HF := Lib.hid (H7.out.trans' hf); clear hf
        go_wp2_with fail
        go_ret
        exact ⟨rfl, HF.out.below (by simp)⟩
end Go.Proofs.Ythkkelkgfkehlaa

namespace Go.Proofs.Ythkkelkgfkehlaa.forestCopies
open Go.ChangeShapes Go.WideShapes Go.ChangeAt Go.RowKit
set_option linter.unusedVariables false

theorem own : ownKnob Try.prog.godebug = none := by kernel_rfl
theorem laidOut : laidOutB Try.prog = true := by kernel_rfl

set_option maxRecDepth 100000 in
theorem lifted (os : Os) (started : os.Started) (H : Type) (enc : TypeId × Value → H) :
    ReturnsInHanded {} Try.checked os 9 .any (Rows.forestCopiesSpec.pre6 enc Try.prog Try.f9 Rows.forestCopiesRow.domain false) (Rows.forestCopiesSpec.post enc Try.prog Try.f9 false true false false) := by
  refine returnsInHanded_of_change (C := Try.checked) own started (by kernel_rfl) Try.func9
    (ChangeSpec.witness6 (enc := enc) (C := Try.checked) false ⟨#[], #[.int .i64 0, .slice none 0 0, .int .u8 0], []⟩ 8 (by kernel_rfl) (by kernel_rfl) (by kernel_rfl) (by kernel_rfl)) ?_
  intro W base args ds gs before hval0 hW hcnd _
  have hval : ∀ (j : Nat) t v, Try.f9.params[j]? = some t → args[j]? = some v → Value.okWide Try.prog W .any base t v := hval0
  have hW' := hW
  obtain ⟨p, q, hA0, hV, rfl, hfz, hnd⟩ := hW
  have hA : DataW.TrodAll enc Try.prog W 0 (fun _ => true) true Try.f9.params.toList args.toList ds p := hA0
  rw [Try.params9] at hA hval
  obtain ⟨v0, vs0, d0, ds0, p0, q0, hargs, rfl, rfl, h0, r0⟩ := trodAll_cons hA
  obtain ⟨v1, vs1, d1, ds1, p1, q1, rfl, rfl, rfl, h1, r1⟩ := trodAll_cons r0
  obtain ⟨v2, vs2, d2, ds2, p2, q2, rfl, rfl, rfl, h2, r2⟩ := trodAll_cons r1
  obtain ⟨rfl, rfl, rfl⟩ := trodAll_nil r2
  obtain rfl : args = #[v0, v1, v2] := by cases args; simp_all
  obtain ⟨rfl, rfl⟩ := trodVars_none hV
  obtain ⟨a0, rfl, rfl, rfl, w0⟩ := open_int Try.underlying3 (hval 0 3 v0 rfl rfl) h0
  obtain ⟨a1, len1, cap1, rfl⟩ := okWide_slice Try.underlying22 (hval 1 22 v1 rfl rfl)
  have k1 := h1
  have lt1 : ∀ x ∈ p1, x.block < W.heap.size := by obtain ⟨m, hm⟩ := k1; exact DataW.trod_lt m _ _ _ hm
  obtain ⟨z1, w1⟩ := open_edges h1
  obtain ⟨a2, rfl, rfl, rfl, w2⟩ := open_int Try.underlying5 (hval 2 5 v2 rfl rfl) h2
  clear hA0 hval0
  refine (walk_forestCopies W a0 w0 a1 len1 cap1 z1 w1 a2 w2).mono fun e W' ⟨he, bel⟩ => ?_
  subst he
  exact ⟨_, rfl, _, _, _, [], _, [], hW', trodAll_mk1 (shut_bool Try.underlying4 _), (trodAll_cons_mk (shut_int Try.underlying3 w0) (trodAll_cons_mk (Below.trod laidOut (by kernel_rfl) (of_decide_eq_true (by kernel_rfl)) k1 bel lt1) (trodAll_cons_mk (shut_int Try.underlying5 w2) trodAll_mk0))), rfl, bel.frame _, fun h => by cases h⟩

theorem over : Rows.forestCopiesRow.holds Try.pinned (OpenSpec.ofChange Rows.forestCopiesSpec) :=
  OpenClaim.holds_of_wide 9 Try.f9 rfl rfl rfl rfl rfl rfl rfl ⟨rfl, rfl, rfl, rfl, rfl⟩ rfl rfl rfl rfl rfl (by kernel_rfl) Try.func9 (by kernel_rfl)
    (of_decide_eq_true (by kernel_rfl)) (by unfold Func.isWrapper; first | (rw [if_pos (by decide +kernel)]; kernel_rfl) | (rw [if_neg (by decide +kernel)]; exact ⟨rfl, rfl⟩))
    (fun os started H enc _ => lifted os started H enc)

end Go.Proofs.Ythkkelkgfkehlaa.forestCopies

namespace Go.Proofs.Ythkkelkgfkehlaa
theorem forestCopies_holds : Rows.ForestCopiesSaid := forestCopies.over
#print axioms forestCopies_holds
end Go.Proofs.Ythkkelkgfkehlaa
