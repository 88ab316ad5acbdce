/- store: New, From. -/
import Derived.Test.YtbegdgnhpklceaaGreatB13
import Derived.Test.YtbegdgnhpklceaaGreatB14
import Derived.StillTailTactics
import Derived.Test.YtbegdgnhpklceaaGreatB12
set_option linter.unusedSimpArgs false
set_option linter.unusedVariables false
/- store: Get, Incident; arena.Free at a slot that is not in use. -/
namespace Go.Proofs.YtbegdgnhpklceaaGreat
open Go.RowKit
set_option maxRecDepth 10000
set_option maxHeartbeats 800000

theorem arena_free_rng (pa slots : Nat) (i : Int) (w : World) (h0 : w.cell? ⟨pa, 0, none⟩ = some (.pointer (some ⟨pa, 0, none⟩))) (h2 : w.cell? ⟨pa, 2, none⟩ = some (.int .i64 slots)) (hi : i < 0 ∨ (slots : Int) ≤ i) :
    Calls Tryz.prog 47 #[.pointer (some ⟨pa, 0, none⟩), .int .i64 i] w fun e w' => e = .returned (.int .i64 3) ∧ w = w' := by
  by_cases hp : i < 0
  · have hd : decide (i < 0) = true := decide_eq_true hp
    go_enter Tryz.func47, Tryz.ntmps47
    go_wp2_with (go_at_call 76; refine (arena_valid pa _ h0).mono ?_; rintro e w' ⟨rfl, rfl⟩)
    go_ret
    exact ⟨rfl, rfl⟩
  · have hd : decide (i < 0) = false := decide_eq_false hp
    have hd2 : decide ((slots : Int) ≤ i) = true := decide_eq_true (by omega)
    go_enter Tryz.func47, Tryz.ntmps47
    go_wp2_with (go_at_call 76; refine (arena_valid pa _ h0).mono ?_; rintro e w' ⟨rfl, rfl⟩)
    go_ret
    exact ⟨rfl, rfl⟩
theorem arena_free_st (pa slots i : Nat) (st : Int) (w : World) (h0 : w.cell? ⟨pa, 0, none⟩ = some (.pointer (some ⟨pa, 0, none⟩))) (h2 : w.cell? ⟨pa, 2, none⟩ = some (.int .i64 slots)) (hi : i < slots)
    (hst : Calls Tryz.prog 85 #[.pointer (some ⟨pa, 0, none⟩), .int .i64 i] w fun e w' => e = .returned (.int .i64 st) ∧ w = w') (hne : st ≠ 1) :
    Calls Tryz.prog 47 #[.pointer (some ⟨pa, 0, none⟩), .int .i64 i] w fun e w' => e = .returned (.int .i64 5) ∧ w = w' := by
  have H := Lib.hid hst; clear hst
  have hd : decide ((i : Int) < 0) = false := decide_eq_false (by omega)
  have hd2 : decide ((slots : Int) ≤ (i : Int)) = false := decide_eq_false (by omega)
  have hd3 : (st == 1) = false := beq_eq_false_iff_ne.2 hne
  have hd4 : (st != 1) = true := bne_iff_ne.2 hne
  go_enter Tryz.func47, Tryz.ntmps47
  go_wp2_with (first | (go_at_call 76; refine (arena_valid pa _ h0).mono ?_; rintro e w' ⟨rfl, rfl⟩) | (go_at_call 85; refine H.out.mono ?_; rintro e w' ⟨rfl, rfl⟩))
  go_ret
  exact ⟨rfl, rfl⟩
theorem arena_free_no {w : World} {pa : Nat} {A : Ar} {l : List Nat} (h : ArenaAt w pa A l) (i : Int) (hu : ¬ (0 ≤ i ∧ A.isUsed i.toNat)) :
    Calls Tryz.prog 47 #[ptr pa, .int .i64 i] w fun e w' => e = .returned (.int .i64 (if i < 0 ∨ (A.slots : Int) ≤ i then 3 else 5)) ∧ w = w' := by
  obtain ⟨v, bs, st, af, h1, h2, h3, rfl, hnd, hl, hok, hst, hch⟩ := h
  obtain ⟨slots, begun, free⟩ := A
  have hs := hok.hs
  have hb := hok.hb
  dsimp only at *
  by_cases hi : i < 0 ∨ (slots : Int) ≤ i
  · rw [if_pos hi]; exact arena_free_rng pa slots i w (h1.cell 0) (h1.cell 2) hi
  · rw [if_neg hi]
    obtain ⟨k, rfl⟩ := Int.eq_ofNat_of_zero_le (show 0 ≤ i by omega)
    by_cases hkb : k < begun
    · obtain ⟨g, cap, b, tm, rfl, hbk, hg1, hg2, hbp, c1, c2, c3, c4, hfz⟩ := ArenaAt.slot h2 h3 hnd hl (show k / 64 < bs.length by omega)
      have hf : k ∈ free := by
        by_cases hf : k ∈ free
        · exact hf
        · exact absurd ⟨by omega, by simp [Ar.isUsed, hkb, hf]⟩ hu
      refine arena_free_st pa slots k (st k) w (h1.cell 0) (h1.cell 2) (by omega) (arena_state_w pa g bs.length cap b k begun (st k) w (h1.cell 1) (by omega) (by omega) (h1.cell 3) hkb c1 c2) ?_
      rw [hst.1 k hkb hf]; decide
    · exact arena_free_st pa slots k 0 w (h1.cell 0) (h1.cell 2) (by omega) (arena_state_fresh pa k begun w (h1.cell 3) (by omega)) (by decide)

/-- Is the slot in use? -/
def Sm.has (s : Sm) (i : Int) : Bool := decide (0 ≤ i) && s.L.any fun e => e.slot == i.toNat
def Sm.got (s : Sm) (i : Int) : Lv := if 0 ≤ i then liveAt s.L i.toNat else Lv.z
theorem Sm.has_iff {s : Sm} (h : s.Ok) (i : Int) : s.has i = true ↔ 0 ≤ i ∧ s.A.isUsed i.toNat := by
  unfold Sm.has
  rw [h.used]
  simp
theorem Sm.got_no {s : Sm} {i : Int} (h : s.has i = false) : s.got i = Lv.z := by
  unfold Sm.got
  unfold Sm.has at h
  split
  · rename_i h0
    refine liveAt_none fun e he hs => ?_
    rw [decide_eq_true h0, Bool.true_and] at h
    have := List.any_eq_false.1 h e he
    simp [hs] at this
  · rfl
section
variable {w w' : World} {ps : Nat} {s : Sm} {K : List Nat}
theorem st_get (h : StoreAt w ps s K) (i : Int) : Calls Tryz.prog 19 #[sptr ps, .int .i64 i] w fun e w' => e = .returned (.tuple #[lvA (s.got i), .bool (s.has i)]) ∧ Fr [] w w' := by
  obtain ⟨yes, hy⟩ : ∃ b, b = s.has i := ⟨_, rfl⟩
  have hiff := Sm.has_iff h.ok i
  rw [← hy] at hiff ⊢
  have HY := Lib.hid hy; clear hy
  have HI := Lib.hid hiff; clear hiff
  have hf0 : Fr [] w (w.alloc (.cells #[.int .i64 0, .int .u64 0, .int .u64 0, .int .u64 0, .int .i64 0, .int .i64 0, .int .i64 0] 36)) := (Fr.refl [] w).alloc _
  have hbx : Blk (w.alloc (.cells #[.int .i64 0, .int .u64 0, .int .u64 0, .int .u64 0, .int .i64 0, .int .i64 0, .int .i64 0] 36)) w.heap.size 36 [.int .i64 0, .int .u64 0, .int .u64 0, .int .u64 0, .int .i64 0, .int .i64 0, .int .i64 0] := by
    have := Blk.new w [.int .i64 0, .int .u64 0, .int .u64 0, .int .u64 0, .int .i64 0, .int .i64 0, .int .i64 0] 36
    simpa using this
  have H := Lib.hid (h.fr0 hf0)
  have hlt := h.lt
  clear h
  go_enter Tryz.func19, Tryz.ntmps19
  go_wp2_with fail
  have HF := Lib.hid hf0; clear hf0
  generalize w.alloc (.cells #[.int .i64 0, .int .u64 0, .int .u64 0, .int .u64 0, .int .i64 0, .int .i64 0, .int .i64 0] 36) = w1 at *
  refine (st_valid H.out).mono ?_
  rintro _ w1 ⟨rfl, rfl⟩
  obtain ⟨pa, pt, mb, n, vl, la, lT, lb, c, hB, rfl, c0, c1, c2, c3, c4, c5, c6⟩ := H.out.open
  have HU := Lib.hid (arena_used hB.ar i yes HI.out)
  have HB := Lib.hid hB; clear hB
  go_wp2_with fail
  refine HU.out.mono ?_
  rintro _ w1 ⟨rfl, rfl⟩
  have z := hbx.frozen
  have t0 := hbx.cell 0; have t1 := hbx.cell 1; have t2 := hbx.cell 2; have t3 := hbx.cell 3; have t4 := hbx.cell 4; have t5 := hbx.cell 5; have t6 := hbx.cell 6
  simp only [List.getElem?_cons_zero, List.getElem?_cons_succ] at t0 t1 t2 t3 t4 t5 t6
  have HX := Lib.hid (fun e => hbx.put7 e); clear hbx
  cases yes with
  | false =>
    have HG := Lib.hid (Sm.got_no HY.out.symm)
    clear c5
    go_wp2_with fail
    have r := (HX.out Lv.z).lvAt
    unfold LvAt Go.Proofs.YtbegdgnhpklceaaGreat.put7 at r
    simp only [Lv.z, Nat.zero_add, Int.ofNat_zero] at r
    obtain ⟨r0, r1, r2, r3, r4, r5, r6⟩ := r
    exact bodyPost_ret (v := .tuple #[lvA Lv.z, .bool false]) (by simp [results, Tryz.results19, go_sem, r0, r1, r2, r3, r4, r5, r6, Lv.z]) rfl ⟨by rw [HG.out], HF.out.put7 _ _ Lv.z (.inr (Nat.le_refl _))⟩
  | true =>
    obtain ⟨h0, hu⟩ := HI.out.1 rfl
    obtain ⟨k, rfl⟩ := Int.eq_ofNat_of_zero_le h0
    simp only [Int.toNat_natCast] at hu
    obtain ⟨hm, hs⟩ := Sm.live_used HB.out.ok hu
    have hkn : k < n := by have := HB.out.sn _ hm; omega
    obtain ⟨b, cap, ev, _, hb, hz, hat⟩ := HB.out.lv.at (i := k) (by simp; omega)
    simp only [List.length_map, List.length_range] at ev
    subst ev
    have hg : s.got k = liveAt s.L k := if_pos h0
    clear hm hs h0
    simp only [List.getElem_map, List.getElem_range] at hat
    generalize liveAt s.L k = e at *
    have HG := Lib.hid hg; clear hg
    obtain ⟨e0, e1, e2, e3, e4, e5, e6⟩ := hat
    have hki : (k : Int) < n := by omega
    clear hz
    go_wp2_with fail
    have r := (HX.out e).lvAt
    unfold LvAt Go.Proofs.YtbegdgnhpklceaaGreat.put7 at r
    simp only [Nat.zero_add] at r
    obtain ⟨r0, r1, r2, r3, r4, r5, r6⟩ := r
    exact bodyPost_ret (v := .tuple #[lvA e, .bool true]) (by simp [results, Tryz.results19, go_sem, r0, r1, r2, r3, r4, r5, r6]) rfl ⟨by rw [HG.out], HF.out.put7 _ _ e (.inr (Nat.le_refl _))⟩
theorem st_incident (h : StoreAt w ps s K) (id : Nat) (hid : id < 18446744073709551616) : Calls Tryz.prog 26 #[sptr ps, .int .u64 id] w fun e w' => ∃ v, e = .returned v ∧ RowI w' v (incL s.L id) ∧ (∀ q, v.ownBlock = some q → w.heap.size ≤ q) ∧ Fr [] w w' := by
  have HV := Lib.hid (st_valid h)
  have hok := h.ok
  have hlen : (incL s.L id).length ≤ 16384 := by
    have h1 := incL_len s.L id
    have h2 := Sm.len_used hok
    have h3 := hok.ar.hb
    have h4 := hok.sl
    have h5 := hok.leE
    unfold Ar.used at h2
    omega
  obtain ⟨pa, pt, mb, n, vl, la, lT, lb, c, hB, rfl, c0, c1, c2, c3, c4, c5, c6⟩ := h.open
  obtain ⟨iv, hI⟩ := hB.inc
  have hrow := (hI.row id hid).2.1
  obtain ⟨v, hv⟩ : ∃ v, (iv id).getD nilS = v := ⟨_, rfl⟩
  rw [hv] at hrow
  have HC := Lib.hid (clone_ints hrow hlen)
  have g1 := lookS (w' := w) hI hid hv rfl
  clear h hB hI hrow hv
  go_enter Tryz.func26, Tryz.ntmps26
  go_wp2_with fail
  refine HV.out.mono ?_
  rintro _ w ⟨rfl, rfl⟩
  go_wp2_with fail
  refine HC.out.mono ?_
  rintro _ w1 ⟨v', rfl, h1, h2, h3⟩
  have HR := Lib.hid (And.intro h1 (And.intro h2 h3)); clear h1 h2 h3
  go_wp2
  go_ret
  exact ⟨v', rfl, HR.out⟩
end
end Go.Proofs.YtbegdgnhpklceaaGreat

/- store: Remove, what it does to the lists and to the vertices. -/
namespace Go.Proofs.YtbegdgnhpklceaaGreat
open Go.RowKit
set_option maxRecDepth 10000
set_option maxHeartbeats 800000

def remF (f : Nat → List Nat) (id sl : Nat) : Nat → List Nat := updF f id ((f id).filter (· != sl))
theorem erase_nodup {p : List Nat} (h : p.Nodup) (x : Nat) : p.eraseIdx (p.idxOf x) = p.filter (· != x) := by
  rw [← h.erase_eq_filter, List.erase_eq_eraseIdx_of_idxOf rfl]
theorem remF_same (f : Nat → List Nat) (id sl : Nat) : remF f id sl id = (f id).filter (· != sl) := updF_same _ _ _
theorem remF_other {f : Nat → List Nat} {id sl x : Nat} (h : x ≠ id) : remF f id sl x = f x := updF_other h
theorem rem_end {s : Sm} (h : s.Ok) {k : Nat} (hu : s.A.isUsed k) : remF (remF (incL s.L) (liveAt s.L k).u k) (liveAt s.L k).v k = incL (s.L.filter fun e => e.slot != k) := by
  obtain ⟨hm, hs⟩ := Sm.live_used h hu
  have hne := h.ne _ hm
  have hone : ∀ x ∈ s.L, x.slot = k → x = liveAt s.L k := fun x hx hxs => by rw [← hxs, liveAt_mem h.one hx]
  generalize liveAt s.L k = e at *
  funext id
  rw [incL_filter]
  by_cases h1 : id = e.v
  · subst h1
    rw [remF_same, remF_other (fun e => hne e.symm)]
  · rw [remF_other h1]
    by_cases h2 : id = e.u
    · subst h2; rw [remF_same]
    · rw [remF_other h2]
      refine (List.filter_eq_self.2 fun i hi => ?_).symm
      obtain ⟨x, hx, hat, hxs⟩ := mem_incL.1 hi
      simp only [bne_iff_ne]
      intro hik
      have := hone x hx (hxs.trans hik)
      subst this
      simp [Lv.at] at hat
      omega
theorem del_len {M : Md} (h : M.Ok) {id : Nat} (hf : (M.find id).isSome = true) : (M.del id).M.L.length + 1 = M.L.length := by
  obtain ⟨i, hi⟩ := Option.isSome_iff_exists.1 hf
  unfold Md.del
  rw [hi]
  exact Md.filter_ne h.ids (Md.find_mem hi)
theorem slot_mem {s : Sm} (h : s.Ok) {k : Nat} (hu : s.A.isUsed k) : k ∈ incL s.L (liveAt s.L k).u ∧ k ∈ incL s.L (liveAt s.L k).v := by
  obtain ⟨hm, hs⟩ := Sm.live_used h hu
  exact ⟨mem_incL.2 ⟨_, hm, by simp [Lv.at], hs⟩, mem_incL.2 ⟨_, hm, by simp [Lv.at], hs⟩⟩
section
variable {w7 wr : World} {ps pt mb n : Nat} {v7 : Value} {la lT lb : List Nat} {M : Md} {f : Nat → List Nat}
theorem ins_tdel (_hps : ps < w7.heap.size) (_hla : ∀ b ∈ la, b < w7.heap.size) (_hv7 : ∀ q, v7.ownBlock = some q → q < w7.heap.size) (h : InsS w7 ps pt mb v7 la lT lb M f n wr) {id : Nat} (hid : id < U64) :
    Calls Tryz.prog 50 #[ptr pt, .int .u64 id] wr fun e w' => ∃ r, e = .returned r ∧ InsS w7 ps pt mb v7 la lT lb (M.del id).M f n w' := by
  obtain ⟨lT', lb', c', hc, hT, hI, hF, h5, h6⟩ := h
  refine (tab_del id hid hT).mono ?_
  rintro _ w' ⟨rfl, hT', hN1, hN2⟩
  have hlt := hT.lt
  have hlb := hI.ltb
  have hml := hI.ltm
  have hsz := hF.size
  have hF' : Fr (mb :: (lT ++ lb)) w7 w' := hF.trans hN1 (fun q hq => (h5 q hq).imp (fun e => by simp [e]) (fun e => e))
  refine ⟨_, rfl, ⟨lT', lb', c', hc, hT', ?_, hF', h5, h6⟩⟩
  refine hI.fr hN1 (fun hm => ?_) (fun b hb hm => ?_)
  · have e1 := hc.t mb hm; have e2 := hc.m; omega
  · have e1 := hc.t b hm; have e2 := hc.b b hb; omega
theorem ins_cut {iv : Int → Option Value} {lT' lb' : List Nat} {c' : Nat → Nat} (hc : Cls c' ps mb v7 la lT' lb') (hT : TabM wr pt M lT') (hI : IncI wr mb iv f n lb') (hF : Fr (mb :: (lT ++ lb)) w7 wr)
    (h5 : ∀ q ∈ lT', q ∈ lT ∨ w7.heap.size ≤ q) (h6 : ∀ q ∈ lb', q ∈ lb ∨ w7.heap.size ≤ q) {id : Nat} (hid : id < U64) {w8 w9 : World} {n2 : Nat}
    (hF1 : Fr ((iv id).getD nilS).ownBlock.toList wr w8) (hM : IMap Tryz.prog 22 .u64 okS w9 mb (updM iv id none) n2) (hF2 : Fr [mb] w8 w9) : InsS w7 ps pt mb v7 la lT lb M (updF f id []) n2 w9 := by
  have hI2 := hI.del hid hF1 hM hF2
  have hin := (hI.row id hid).2.2
  have hG : Fr (mb :: ((iv id).getD nilS).ownBlock.toList) wr w9 := (hF1.mono (S' := mb :: ((iv id).getD nilS).ownBlock.toList) (fun b hb => .inl (List.mem_cons_of_mem _ hb))).trans hF2 (fun b hb => .inl (by simp at hb; simp [hb]))
  refine ⟨lT', lb', c', hc, hT.fr hG (fun b hb hm => ?_), ⟨_, hI2⟩, hF.trans hG (fun b hb => ?_), h5, h6⟩
  · have e0 := hc.t b hb
    rcases List.mem_cons.1 hm with e | e
    · have := hc.m; rw [← e] at this; omega
    · have := hc.b b (hin b (by simpa using e)); omega
  · rcases List.mem_cons.1 hb with rfl | e
    · exact .inl (by simp)
    · rcases h6 b (hin b (by simpa using e)) with e2 | e2
      · exact .inl (by simp [e2])
      · exact .inr e2
end
/-- Behind the first one of the two ids, and behind both. -/
def remMk (s : Sm) (k : Nat) : Nat → Md
  | 0 => s.M
  | 1 => Sm.delIf s.M (s.L.filter fun e => e.slot != k) (liveAt s.L k).u
  | _ => Sm.delIf (Sm.delIf s.M (s.L.filter fun e => e.slot != k) (liveAt s.L k).u) (s.L.filter fun e => e.slot != k) (liveAt s.L k).v
def remFk (s : Sm) (k : Nat) : Nat → Nat → List Nat
  | 0 => incL s.L
  | 1 => remF (incL s.L) (liveAt s.L k).u k
  | _ => remF (remF (incL s.L) (liveAt s.L k).u k) (liveAt s.L k).v k
def idK (e : Lv) : Nat → Nat
  | 0 => e.u
  | _ => e.v
theorem remFk_at {s : Sm} (h : s.Ok) {k : Nat} (hu : s.A.isUsed k) {j : Nat} (hj : j < 2) : remFk s k j (idK (liveAt s.L k) j) = incL s.L (idK (liveAt s.L k) j) := by
  have hne := h.ne _ (Sm.live_used h hu).1
  match j, hj with
  | 0, _ => rfl
  | 1, _ => exact remF_other (fun e => hne e.symm)
theorem remFk_succ (s : Sm) (k : Nat) {j : Nat} (hj : j < 2) : remFk s k (j + 1) = remF (remFk s k j) (idK (liveAt s.L k) j) k := by
  match j, hj with
  | 0, _ => rfl
  | 1, _ => rfl
theorem remMk_succ {s : Sm} {k j : Nat} (hj : j < 2) : remMk s k (j + 1) = if (incL s.L (idK (liveAt s.L k) j)).filter (· != k) = [] then ((remMk s k j).del (idK (liveAt s.L k) j)).M else remMk s k j := by
  rw [← incL_filter]
  match j, hj with
  | 0, _ => rfl
  | 1, _ => rfl
theorem remMk_ok {s : Sm} (h : s.Ok) (k j : Nat) : (remMk s k j).Ok := by
  match j with
  | 0 => exact h.md
  | 1 => exact Sm.delIf_ok h.md _ _
  | j + 2 => exact Sm.delIf_ok (Sm.delIf_ok h.md _ _) _ _
theorem remMk_find {s : Sm} (h : s.Ok) {k : Nat} (hu : s.A.isUsed k) {j : Nat} (hj : j < 2) : ((remMk s k j).find (idK (liveAt s.L k) j)).isSome = true := by
  have hne := h.ne _ (Sm.live_used h hu).1
  obtain ⟨h1, h2⟩ := slot_mem h hu
  match j, hj with
  | 0, _ => exact (h.vert _).2 (List.ne_nil_of_mem h1)
  | 1, _ => exact (Sm.delIf_find h.md _ _ _).2 ⟨(h.vert _).2 (List.ne_nil_of_mem h2), fun e => absurd e.symm hne⟩
theorem idK_mem {s : Sm} (h : s.Ok) {k : Nat} (hu : s.A.isUsed k) (j : Nat) : k ∈ incL s.L (idK (liveAt s.L k) j) := by
  obtain ⟨h1, h2⟩ := slot_mem h hu
  match j with
  | 0 => exact h1
  | j + 1 => exact h2
theorem idK_u64 {s : Sm} (h : s.Ok) {k : Nat} (hu : s.A.isUsed k) (j : Nat) : idK (liveAt s.L k) j < U64 := by
  have := h.u64 _ (Sm.live_used h hu).1
  match j with
  | 0 => exact this.1
  | j + 1 => exact this.2
theorem remFk_end {s : Sm} (h : s.Ok) {k : Nat} (hu : s.A.isUsed k) : remFk s k 2 = incL (s.L.filter fun e => e.slot != k) := rem_end h hu
/-- One round, when the list is empty behind it. -/
theorem rem_len0 {s : Sm} (h : s.Ok) {k : Nat} (hu : s.A.isUsed k) {j : Nat} (hj : j < 2) (he : (incL s.L (idK (liveAt s.L k) j)).filter (· != k) = []) : (remMk s k (j + 1)).L.length = (remMk s k j).L.length - 1 := by
  rw [remMk_succ hj, if_pos he]
  have := del_len (remMk_ok h k j) (remMk_find h hu hj)
  omega
theorem live_clear (L : List Lv) (n k : Nat) : ((List.range n).map (liveAt L)).set k Lv.z = (List.range n).map (liveAt (L.filter fun e => e.slot != k)) := by
  refine List.ext_getElem? fun i => ?_
  rw [List.getElem?_set]
  by_cases hi : i < n
  · simp only [List.length_map, List.length_range, List.getElem?_map, List.getElem?_range hi, Option.map_some, liveAt_filter]
    by_cases he : k = i
    · rw [if_pos he, if_pos he.symm, if_pos (by omega)]
    · rw [if_neg he, if_neg (fun h => he h.symm)]
  · rw [List.getElem?_eq_none (by simp; omega), List.getElem?_eq_none (by simp; omega)]
    simp; omega
end Go.Proofs.YtbegdgnhpklceaaGreat

/- store: Remove. -/
namespace Go.Proofs.YtbegdgnhpklceaaGreat
open Go.RowKit
set_option maxRecDepth 10000
set_option maxHeartbeats 1600000

abbrev zC : List Value := [.int .i64 0, .int .u64 0, .int .u64 0, .int .u64 0, .int .i64 0, .int .i64 0, .int .i64 0]
/-- The store behind Remove. -/
theorem rem_done {w w7 wo : World} {ps pa pt mb n k : Nat} {vl : Value} {s : Sm} {la lT lb : List Nat} {c : Nat → Nat} (HB : StB w ps pa pt mb n vl s la lT lb c) (hu : s.A.isUsed k) (e : Lv)
    (HS2 : InsS w7 ps pt mb vl la lT lb (remMk s k 2) (remFk s k 2) (remMk s k 2).L.length wo)
    (HD7 : Blk w7 ps 73 [.int .i64 s.V, .int .i64 s.E, .int .u64 s.last, ptr pa, ptr pt, vl, .map (some mb)])
    (hA7 : ArenaAt w7 pa (s.A.put k) la) (hr7 : RowV w7 vl ((List.range n).map (liveAt (s.L.filter fun e => e.slot != k)))) (hF7 : Fr (vl.ownBlock.toList ++ la) w w7) (hs7 : w.heap.size + 1 ≤ w7.heap.size) :
    ∃ K', StoreAt (Go.Proofs.YtbegdgnhpklceaaGreat.put7 wo w.heap.size 0 e) ps (s.rem k) K' ∧ Fr (stK ps mb vl la lT lb) w (Go.Proofs.YtbegdgnhpklceaaGreat.put7 wo w.heap.size 0 e) ∧ ∀ q ∈ K', q ∈ stK ps mb vl la lT lb ∨ w.heap.size ≤ q := by
  have HLT := HB.lt
  have hput : Fr [w.heap.size] wo (Go.Proofs.YtbegdgnhpklceaaGreat.put7 wo w.heap.size 0 e) := (Fr.refl _ _).put7 _ _ _ (.inl (by simp))
  have hFr := HS2.fr
  obtain ⟨lT', lb', c', hc', hT', hI', hF', h5', h6'⟩ := HS2
  have HCL := HB.cls
  have hTw : ∀ q ∈ lT, q < w.heap.size := fun q hq => HLT q (by simp [stK, hq])
  have hBw : ∀ q ∈ lb, q < w.heap.size := fun q hq => HLT q (by simp [stK, hq])
  have hAn : ∀ q ∈ la, q ∉ mb :: (lT ++ lb) := fun q hq hm => by
    have a1 := HCL.a q hq
    simp only [List.mem_cons, List.mem_append] at hm
    rcases hm with rfl | e | e
    · have := HCL.m; omega
    · have := HCL.t q e; omega
    · have := HCL.b q e; omega
  have hVn : ∀ q, vl.ownBlock = some q → q ∉ mb :: (lT ++ lb) := fun q hq hm => by
    have a1 := HCL.l q hq
    simp only [List.mem_cons, List.mem_append] at hm
    rcases hm with rfl | e | e
    · have := HCL.m; omega
    · have := HCL.t q e; omega
    · have := HCL.b q e; omega
  have hPN : ps ∉ mb :: (lT ++ lb) := fun hm => by
    have a1 := HCL.p
    simp only [List.mem_cons, List.mem_append] at hm
    rcases hm with e | e | e
    · have := HCL.m; rw [← e] at this; omega
    · have := HCL.t ps e; omega
    · have := HCL.b ps e; omega
  have hnx : ∀ q : Nat, (q < w.heap.size ∨ w.heap.size + 1 ≤ q) → q ∉ [w.heap.size] := fun q hq hm => by
    rw [List.mem_singleton] at hm; omega
  have hK : ∀ q ∈ stK ps mb vl la lT lb, q ∉ [w.heap.size] := fun q hq => hnx q (.inl (HLT q hq))
  rw [remFk_end HB.ok hu] at hI'
  refine ⟨_, ⟨pa, pt, mb, n, vl, la, lT', lb', c', ⟨?_, ?_, ?_, ?_, ?_, ?_, HB.nE, Sm.ok_rem HB.ok hu, hc'⟩, rfl⟩, ?_, ?_⟩
  · exact hput.blk (hFr.blk HD7 hPN) (hK ps (by simp [stK]))
  · exact (hA7.fr hFr hAn).fr hput (fun q hq => hK q (by simp [stK, hq]))
  · exact hT'.fr hput (fun q hq => hnx q ((h5' q hq).imp (hTw q) (fun e => by omega)))
  · exact (hr7.fr hFr hVn).fr hput (fun q hq => hK q (by simp [stK, hq]))
  · exact hI'.fr hput (hK mb (by simp [stK])) (fun q hq => hnx q ((h6' q hq).imp (hBw q) (fun e => by omega)))
  · exact fun e he => HB.sn e (List.mem_filter.1 he).1
  · refine ((hF7.mono (S' := stK ps mb vl la lT lb) (fun q hq => .inl ?_)).trans hFr (fun q hq => .inl ?_)).put7 _ _ _ (.inr (Nat.le_refl _))
    · simp only [List.mem_append, Option.mem_toList] at hq
      rcases hq with e | e <;> simp [stK, e]
    · simp only [List.mem_cons, List.mem_append] at hq
      rcases hq with e | e | e <;> simp [stK, e]
  · intro q hq
    simp only [stK, List.mem_cons, List.mem_append, Option.mem_toList] at hq
    rcases hq with e | e | ((e | e) | e) | e
    · exact .inl (by simp [stK, e])
    · exact .inl (by simp [stK, e])
    · exact .inl (by simp [stK, e])
    · exact (h5' q e).imp (fun e => by simp [stK, e]) (fun e => by omega)
    · exact .inl (by simp [stK, e])
    · exact (h6' q e).imp (fun e => by simp [stK, e]) (fun e => by omega)
section
variable {w w' : World} {ps : Nat} {s : Sm} {K : List Nat}
theorem st_rem_no (h : StoreAt w ps s K) (i : Int) (hi : s.has i = false) :
    Calls Tryz.prog 13 #[sptr ps, .int .i64 i] w fun e w' => e = .returned (.tuple #[lvA Lv.z, .int .i64 (if i < 0 ∨ (s.E : Int) ≤ i then 3 else 5)]) ∧ Fr [] w w' := by
  obtain ⟨code, hcode⟩ : ∃ code : Int, code = if i < 0 ∨ (s.E : Int) ≤ i then 3 else 5 := ⟨_, rfl⟩
  rw [← hcode]
  have hc : code ≠ 0 := by rw [hcode]; split <;> decide
  have HCD := Lib.hid hcode; clear hcode
  have HN := Lib.hid (show ¬ (0 ≤ i ∧ s.A.isUsed i.toNat) from fun e => by rw [← Sm.has_iff h.ok, hi] at e; cases e)
  have d1 : (code == 0) = false := beq_eq_false_iff_ne.2 hc
  have d2 : (code != 0) = true := bne_iff_ne.2 hc
  clear hc hi
  have hf0 : Fr [] w (w.alloc (.cells #[.int .i64 0, .int .u64 0, .int .u64 0, .int .u64 0, .int .i64 0, .int .i64 0, .int .i64 0] 36)) := (Fr.refl [] w).alloc _
  have hbx : Blk (w.alloc (.cells #[.int .i64 0, .int .u64 0, .int .u64 0, .int .u64 0, .int .i64 0, .int .i64 0, .int .i64 0] 36)) w.heap.size 36 [.int .i64 0, .int .u64 0, .int .u64 0, .int .u64 0, .int .i64 0, .int .i64 0, .int .i64 0] := by
    have := Blk.new w [.int .i64 0, .int .u64 0, .int .u64 0, .int .u64 0, .int .i64 0, .int .i64 0, .int .i64 0] 36
    simpa using this
  have H := Lib.hid (h.fr0 hf0)
  clear h
  go_enter Tryz.func13, Tryz.ntmps13
  go_wp2_with fail
  have HF := Lib.hid hf0; clear hf0
  generalize w.alloc (.cells #[.int .i64 0, .int .u64 0, .int .u64 0, .int .u64 0, .int .i64 0, .int .i64 0, .int .i64 0] 36) = w1 at *
  refine (st_valid H.out).mono ?_
  rintro _ w1 ⟨rfl, rfl⟩
  obtain ⟨pa, pt, mb, n, vl, la, lT, lb, c, hB, rfl, c0, c1, c2, c3, c4, c5, c6⟩ := H.out.open
  have hfr := arena_free_no hB.ar i HN.out
  rw [hB.ok.sl, ← HCD.out] at hfr
  have HU := Lib.hid hfr
  clear hfr hB c0 c1 c2 c4 c5 c6
  go_wp2_with fail
  refine HU.out.mono ?_
  rintro _ w1 ⟨rfl, rfl⟩
  have z := hbx.frozen
  have t0 := hbx.cell 0; have t1 := hbx.cell 1; have t2 := hbx.cell 2; have t3 := hbx.cell 3; have t4 := hbx.cell 4; have t5 := hbx.cell 5; have t6 := hbx.cell 6
  simp only [List.getElem?_cons_zero, List.getElem?_cons_succ] at t0 t1 t2 t3 t4 t5 t6
  have HX := Lib.hid (fun e => hbx.put7 e); clear hbx
  clear c3
  go_wp2_with fail
  have r := (HX.out Lv.z).lvAt
  unfold LvAt Go.Proofs.YtbegdgnhpklceaaGreat.put7 at r
  simp only [Lv.z, Nat.zero_add, Int.ofNat_zero] at r
  obtain ⟨r0, r1, r2, r3, r4, r5, r6⟩ := r
  exact bodyPost_ret (v := .tuple #[lvA Lv.z, .int .i64 code]) (by simp [results, Tryz.results13, go_sem, r0, r1, r2, r3, r4, r5, r6, Lv.z]) rfl ⟨rfl, HF.out.put7 _ _ Lv.z (.inr (Nat.le_refl _))⟩
theorem st_rem_yes (h : StoreAt w ps s K) (k : Nat) (hu : s.A.isUsed k) :
    Calls Tryz.prog 13 #[sptr ps, .int .i64 k] w fun e w' => e = .returned (.tuple #[lvA (liveAt s.L k), .int .i64 0]) ∧ ∃ K', StoreAt w' ps (s.rem k) K' ∧ Fr K w w' ∧ ∀ q ∈ K', q ∈ K ∨ w.heap.size ≤ q := by
  have hf0 : Fr [] w (w.alloc (.cells #[.int .i64 0, .int .u64 0, .int .u64 0, .int .u64 0, .int .i64 0, .int .i64 0, .int .i64 0] 36)) := (Fr.refl [] w).alloc _
  have hbx : Blk (w.alloc (.cells #[.int .i64 0, .int .u64 0, .int .u64 0, .int .u64 0, .int .i64 0, .int .i64 0, .int .i64 0] 36)) w.heap.size 36 [.int .i64 0, .int .u64 0, .int .u64 0, .int .u64 0, .int .i64 0, .int .i64 0, .int .i64 0] := by
    have := Blk.new w [.int .i64 0, .int .u64 0, .int .u64 0, .int .u64 0, .int .i64 0, .int .i64 0, .int .i64 0] 36
    simpa using this
  have hs1 : (w.alloc (.cells #[.int .i64 0, .int .u64 0, .int .u64 0, .int .u64 0, .int .i64 0, .int .i64 0, .int .i64 0] 36)).heap.size = w.heap.size + 1 := by simp
  obtain ⟨pa, pt, mb, n, vl, la, lT, lb, c, hB0, rfl⟩ := id h
  have hB := hB0.fr hf0 (by simp)
  have HV := Lib.hid (st_valid (h.fr0 hf0))
  have HA := Lib.hid (arena_free hB.ar hu)
  have HB0 := Lib.hid hB0
  have HLT := Lib.hid hB0.lt
  have HLT1 := Lib.hid hB.lt
  have HU := Lib.hid hu
  obtain ⟨hm, hs⟩ := Sm.live_used hB.ok hu
  have hkn : k < n := by have := hB.sn _ hm; omega
  clear h hB0
  go_enter Tryz.func13, Tryz.ntmps13
  go_wp2_with fail
  have HF := Lib.hid (And.intro hf0 hs1); clear hf0 hs1
  generalize w.alloc (.cells #[.int .i64 0, .int .u64 0, .int .u64 0, .int .u64 0, .int .i64 0, .int .i64 0, .int .i64 0] 36) = w1 at *
  refine HV.out.mono ?_
  rintro _ w1 ⟨rfl, rfl⟩
  have c3 := hB.hd.cell 3
  simp only [List.getElem?_cons_zero, List.getElem?_cons_succ] at c3
  go_wp2_with fail
  refine HA.out.mono ?_
  rintro _ w3 ⟨rfl, hA3, hF3⟩
  clear HA HV c3
  have hpl : ps ∉ la := fun hm => by have e1 := hB.cls.a ps hm; have e2 := hB.cls.p; omega
  have hd3 := hF3.blk hB.hd hpl
  have hx3 := hF3.blk hbx (fun hm => by have := HLT.out _ (show w.heap.size ∈ stK ps mb vl la lT lb by simp [stK, hm]); omega)
  have hlv := hB.lv.fr hF3 (fun q hq hm => by have e1 := hB.cls.l q hq; have e2 := hB.cls.a q hm; omega)
  obtain ⟨b, cap, ev, _, hb, hz, hat⟩ := hlv.at (i := k) (by simp; omega)
  simp only [List.length_map, List.length_range] at ev
  subst ev
  simp only [List.getElem_map, List.getElem_range] at hat
  have hs3 := hF3.size
  have c5 := hd3.cell 5
  simp only [List.getElem?_cons_zero, List.getElem?_cons_succ] at c5
  have HB := Lib.hid hB; clear hB
  have HX := Lib.hid (And.intro hd3 (And.intro hx3 (And.intro hlv (And.intro hA3 (And.intro hF3 hpl))))); clear hd3 hx3 hlv hA3 hF3 hpl hbx
  have HM := Lib.hid (And.intro hm hs); clear hm hs
  obtain ⟨e, he⟩ : ∃ e, e = liveAt s.L k := ⟨_, rfl⟩
  rw [← he] at hat
  have HE := Lib.hid he; clear he
  have hat0 := hat
  obtain ⟨e0, e1, e2, e3, e4, e5, e6⟩ := hat0
  have hki : (k : Int) < n := by omega
  have z0 := hz (k * 7); have z1 := hz (k * 7 + 1); have z2 := hz (k * 7 + 2); have z3 := hz (k * 7 + 3); have z4 := hz (k * 7 + 4); have z5 := hz (k * 7 + 5); have z6 := hz (k * 7 + 6)
  have HAT := Lib.hid (And.intro hat hz); clear hat hz
  have hfa : Fr [] w3 (w3.alloc (.cells #[.int .i64 e.slot, .int .u64 e.seq, .int .u64 e.u, .int .u64 e.v, .int .i64 e.wt, .int .i64 e.t, .int .i64 e.x] 36)) := (Fr.refl [] w3).alloc _
  have a5 := hfa.cell c5 (by simp)
  obtain ⟨b', cap', ev', _, hb', hzA, hatA⟩ := (HX.out.2.2.1.fr0 hfa).at (i := k) (by simp; omega)
  simp only [List.length_map, List.length_range, Value.slice.injEq, Option.some.injEq, Addr.mk.injEq, true_and, and_true] at ev'
  obtain ⟨rfl, rfl⟩ := ev'
  simp only [List.getElem_map, List.getElem_range, ← HE.out] at hatA
  obtain ⟨f0, f1, f2, f3, f4, f5, f6⟩ := hatA
  have y0 := hzA (k * 7); have y1 := hzA (k * 7 + 1); have y2 := hzA (k * 7 + 2); have y3 := hzA (k * 7 + 3); have y4 := hzA (k * 7 + 4); have y5 := hzA (k * 7 + 5); have y6 := hzA (k * 7 + 6)
  have HFA := Lib.hid hfa
  clear hfa hzA hb'
  have hn3 : ps ≠ b := fun e => by have e1 := HB.out.cls.l b rfl; have e2 := HB.out.cls.p; rw [e] at e2; omega
  go_wp2_with fail
  clear f0 f1 f2 f3 f4 f5 f6 y0 y1 y2 y3 y4 y5 y6 e0 e1 e2 e3 e4 e5 e6 z0 z1 z2 z3 z4 z5 z6 a5 c5
  have hg7 : Fr [b] w3 ((Go.Proofs.YtbegdgnhpklceaaGreat.put7 w3 b (k * 7) Lv.z).alloc (.cells (lvC e).toArray 36)) := ((Fr.refl [b] w3).put7 _ _ _ (.inl (by simp))).alloc _
  have he7 : Blk ((Go.Proofs.YtbegdgnhpklceaaGreat.put7 w3 b (k * 7) Lv.z).alloc (.cells (lvC e).toArray 36)) w3.heap.size 36 (lvC e) := by
    have := Blk.new (Go.Proofs.YtbegdgnhpklceaaGreat.put7 w3 b (k * 7) Lv.z) (lvC e) 36
    rwa [show (Go.Proofs.YtbegdgnhpklceaaGreat.put7 w3 b (k * 7) Lv.z).heap.size = w3.heap.size by unfold Go.Proofs.YtbegdgnhpklceaaGreat.put7; simp] at this
  have hr7 : RowV ((Go.Proofs.YtbegdgnhpklceaaGreat.put7 w3 b (k * 7) Lv.z).alloc (.cells (lvC e).toArray 36)) (.slice (some ⟨b, 0, none⟩) n cap) ((List.range n).map (liveAt (s.L.filter fun e => e.slot != k))) := by
    have h0 : RowV w3 (.slice (some ⟨b, 0, none⟩) ((List.range n).map (liveAt s.L)).length cap) ((List.range n).map (liveAt s.L)) := by simpa using HX.out.2.2.1
    have := (h0.set (i := k) (by simp; omega) Lv.z).fr0 ((Fr.refl [] _).alloc (.cells (lvC e).toArray 36))
    rw [live_clear] at this
    simpa using this
  have hw7 : (Go.Proofs.YtbegdgnhpklceaaGreat.put7 w3 b (k * 7) Lv.z).alloc (.cells (lvC e).toArray 36) = ((((((((w3.setCell ⟨b, k * 7, none⟩ (.int .i64 0)).setCell ⟨b, k * 7 + 1, none⟩ (.int .u64 0)).setCell ⟨b, k * 7 + 2, none⟩ (.int .u64 0)).setCell ⟨b, k * 7 + 3, none⟩ (.int .u64 0)).setCell ⟨b, k * 7 + 4, none⟩ (.int .i64 0)).setCell ⟨b, k * 7 + 5, none⟩ (.int .i64 0)).setCell ⟨b, k * 7 + 6, none⟩ (.int .i64 0)).alloc (.cells #[.int .i64 e.slot, .int .u64 e.seq, .int .u64 e.u, .int .u64 e.v, .int .i64 e.wt, .int .i64 e.t, .int .i64 e.x] 36)) := rfl
  rw [hw7] at hg7 he7 hr7
  clear hw7
  generalize ((((((((w3.setCell ⟨b, k * 7, none⟩ (.int .i64 0)).setCell ⟨b, k * 7 + 1, none⟩ (.int .u64 0)).setCell ⟨b, k * 7 + 2, none⟩ (.int .u64 0)).setCell ⟨b, k * 7 + 3, none⟩ (.int .u64 0)).setCell ⟨b, k * 7 + 4, none⟩ (.int .i64 0)).setCell ⟨b, k * 7 + 5, none⟩ (.int .i64 0)).setCell ⟨b, k * 7 + 6, none⟩ (.int .i64 0)).alloc (.cells #[.int .i64 e.slot, .int .u64 e.seq, .int .u64 e.u, .int .u64 e.v, .int .i64 e.wt, .int .i64 e.t, .int .i64 e.x] 36)) = w7 at *
  have hs7 := he7.lt
  have hbw : b < w.heap.size := HLT.out b (by simp [stK, Value.ownBlock])
  have hF17 : Fr (b :: la) w1 w7 := (HX.out.2.2.2.2.1.mono (S' := b :: la) (fun q hq => .inl (List.mem_cons_of_mem _ hq))).trans hg7 (fun q hq => .inl (by simp at hq; simp [hq]))
  have hbl : ∀ q ∈ b :: la, c q = 4 ∨ c q = 2 := fun q hq => by
    rcases List.mem_cons.1 hq with rfl | e
    · exact .inl (HB.out.cls.l _ rfl)
    · exact .inr (HB.out.cls.a q e)
  have hd7 := hg7.blk HX.out.1 (by simpa using hn3)
  have hx7 := hg7.blk HX.out.2.1 (by simp; omega)
  have hA7 := HX.out.2.2.2.1.fr hg7 (fun q hq hm => by
    rw [List.mem_singleton] at hm
    subst hm
    have e1 := HB.out.cls.a q hq; have e2 := HB.out.cls.l q rfl; omega)
  have hIns : InsS w7 ps pt mb (.slice (some ⟨b, 0, none⟩) n cap) la lT lb s.M (incL s.L) s.M.L.length w7 :=
    ⟨lT, lb, c, HB.out.cls, HB.out.tb.fr hF17 (fun q hq hm => by have e1 := HB.out.cls.t q hq; rcases hbl q hm with e2 | e2 <;> omega),
      HB.out.inc.fr hF17 (fun hm => by have e1 := HB.out.cls.m; rcases hbl mb hm with e2 | e2 <;> omega) (fun q hq hm => by have e1 := HB.out.cls.b q hq; rcases hbl q hm with e2 | e2 <;> omega), Fr.refl _ _, fun q hq => .inl hq, fun q hq => .inl hq⟩
  have hpn : ps ∉ mb :: (lT ++ lb) := fun hm => by
    have a1 := HB.out.cls.p
    simp only [List.mem_cons, List.mem_append] at hm
    rcases hm with e | e | e
    · have := HB.out.cls.m; rw [← e] at this; omega
    · have := HB.out.cls.t ps e; omega
    · have := HB.out.cls.b ps e; omega
  have HD7 := Lib.hid (And.intro hd7 (And.intro (show ps < w7.heap.size from hd7.lt) (And.intro hA7.lt (show ∀ q, (Value.slice (some ⟨b, 0, none⟩) n cap).ownBlock = some q → q < w7.heap.size from fun q hq => hr7.lt hq))))
  have HPN := Lib.hid hpn
  have hbn : ∀ y, w.heap.size ≤ y → y ∉ mb :: (lT ++ lb) := fun y h1 hm => by
    have : y ∈ stK ps mb (.slice (some ⟨b, 0, none⟩) n cap) la lT lb := by
      simp only [List.mem_cons, List.mem_append] at hm
      simp only [stK, List.mem_cons, List.mem_append]
      rcases hm with e | e | e
      · simp [e]
      · simp [e]
      · simp [e]
    have := HLT.out y this; omega
  have HEnd := Lib.hid (And.intro hbn (And.intro hx7 (And.intro he7 (And.intro hA7 (And.intro hr7 hF17)))))
  have HIns := Lib.hid hIns
  clear hg7 hd7 hx7 he7 hA7 hr7 hIns hpn hbn hF17 hbl
  have hLlen : s.L.length ≤ 16384 := by
    have h1 := Sm.len_used HB.out.ok
    have h2 := HB.out.ok.ar.hb
    have h3 := HB.out.ok.sl
    have h4 := HB.out.ok.leE
    unfold Ar.used at h1
    omega
  go_loopw [47] (fun y wr => ∃ j : Nat, j ≤ 2 ∧ y = .int .i64 j ∧ Hid (InsS w7 ps pt mb (.slice (some ⟨b, 0, none⟩) n cap) la lT lb (remMk s k j) (remFk s k j) (remMk s k j).L.length wr)) (fun y _ => 2 - (intOf y).toNat)
  case atStart => exact ⟨0, by omega, rfl, HIns⟩
  case round =>
    obtain ⟨j, hj, rfl, HS2⟩ := hrel
    by_cases hlt : j < 2
    · have hk2 : j = 0 ∨ j = 1 := by omega
      clear hlt hj
      rcases hk2 with rfl | rfl
      · have hFr := HS2.out.fr
        have hd := hFr.blk HD7.out.1 HPN.out
        have c4 := hd.cell 4
        have c6 := hd.cell 6
        simp only [List.getElem?_cons_zero, List.getElem?_cons_succ] at c4 c6
        have HMO := Lib.hid HS2.out.mok
        clear hFr hd
        rename World => wo
        obtain ⟨lT', lb', c', hc', hT', ⟨iv, hI'⟩, hF', h5', h6'⟩ := HS2.out
        have hidE : idK (liveAt s.L k) 0 = e.u := by rw [← HE.out]; rfl
        have Hid64 := Lib.hid (idK_u64 HB.out.ok HU.out 0)
        have hmem := idK_mem HB.out.ok HU.out 0
        have hpe := remFk_at HB.out.ok HU.out (j := 0) (by omega)
        have hnd := incL_nodup HB.out.ok.one (idK (liveAt s.L k) 0)
        have hpl := Nat.le_trans (incL_len s.L (idK (liveAt s.L k) 0)) hLlen
        have HMS := Lib.hid (remMk_succ (s := s) (k := k) (j := 0) (by omega))
        have HL0 := Lib.hid (rem_len0 HB.out.ok HU.out (j := 0) (by omega))
        have HFS := Lib.hid (remFk_succ s k (j := 0) (by omega))
        rw [hidE] at Hid64 hmem hpe hnd hpl HMS HL0 HFS
        obtain ⟨p, hp⟩ : ∃ p, p = incL s.L e.u := ⟨_, rfl⟩
        rw [← hp] at hmem hpe hnd hpl HMS HL0
        have HPE := Lib.hid hpe; clear hpe
        clear hp hidE
        obtain ⟨av0, cv0, ev0⟩ := (hI'.row e.u Hid64.out).2.1.slice
        have hrow := (hI'.row e.u Hid64.out).2.1
        rw [HPE.out] at ev0 hrow
        rw [ev0] at hrow
        have EV := Lib.hid ev0
        have g1 := lookS (w' := wo) hI' Hid64.out ev0 rfl
        obtain ⟨i, hi⟩ : ∃ i, i = p.idxOf k := ⟨_, rfl⟩
        have hil : i < p.length := by rw [hi]; exact List.idxOf_lt_length_of_mem hmem
        have hpi : p[i]'hil = k := by subst hi; exact List.getElem_idxOf hil
        have HER := Lib.hid (show p.eraseIdx i = p.filter (· != k) by rw [hi]; exact erase_nodup hnd k)
        have hix := idx_ints hrow hpl hil hnd
        rw [hpi] at hix
        have HIX := Lib.hid hix; clear hix
        have HDL := Lib.hid (del_ints hrow hpl hil)
        have HMX := Lib.hid (show (iv e.u).isSome = true from (hI'.row e.u Hid64.out).1.2 (by rw [HPE.out]; exact List.ne_nil_of_mem hmem))
        clear hi hmem hnd hrow ev0 hpi
        have hml : (remMk s k 0).L.length < maxLen := by have := HMO.out.len; unfold maxLen; omega
        have HML := Lib.hid hml; clear hml
        have HI := Lib.hid hI'
        have HPK := Lib.hid (And.intro hc' (And.intro hT' (And.intro hF' (And.intro h5' h6'))))
        have hio : ∀ q, (Value.slice av0 p.length cv0).ownBlock = some q → q ≠ ps ∧ q ≠ mb := fun q hq => by
          have e1 := hc'.b q ((hI'.row e.u Hid64.out).2.2 q (by rw [EV.out]; exact hq))
          exact ⟨fun e => by have := hc'.p; rw [← e] at this; omega, fun e => by have := hc'.m; rw [← e] at this; omega⟩
        have HIO := Lib.hid hio
        clear hc' hT' hI' hF' h5' h6' hio
        have hi0 : (0 : Int) ≤ i := by omega
        have hi1 : decide ((0 : Int) ≤ i) = true := decide_eq_true hi0
        have hi2 : IntKind.i64.wrap ((i : Int) + 1) = (i : Int) + 1 := by simp [IntKind.wrap, IntKind.bits, IntKind.signed]; omega
        go_wp2_with fail
        refine HIX.out.mono ?_
        rintro _ wo' ⟨rfl, rfl⟩
        go_wp2_with fail
        refine HDL.out.mono ?_
        rintro _ w8 ⟨v8, rfl, hr8, ho8, hF8⟩
        rw [HER.out] at hr8
        obtain ⟨a8, cp8, rfl⟩ := hr8.slice
        have hpo : ps ∉ (Value.slice av0 p.length cv0).ownBlock.toList := fun hm => (HIO.out ps (by simpa using hm)).1 rfl
        have hmo : mb ∉ (Value.slice av0 p.length cv0).ownBlock.toList := fun hm => (HIO.out mb (by simpa using hm)).2 rfl
        have k4 := hF8.cell c4 hpo
        have k6 := hF8.cell c6 hpo
        have hM8 := HI.out.im.same (hF8.keep mb HI.out.im.lt hmo)
        have HR8 := Lib.hid (And.intro hr8 (And.intro ho8 hF8))
        clear hr8 ho8 c4 c6 g1
        have HFL := Lib.hid (show List.filter (fun x => x != k) p = List.filter (· != k) p from rfl)
        obtain ⟨q, hq⟩ : ∃ q, q = p.filter (· != k) := ⟨_, rfl⟩
        rw [← hq] at HR8 HMS HL0 ⊢
        have HQ := Lib.hid hq; clear hq
        by_cases hq0 : q = []
        · have hlen : q.length = 0 := by rw [hq0]; rfl
          have HQ0 := Lib.hid hq0; clear hq0
          obtain ⟨w9, hrun9, hM9, hG9⟩ := hM8.del Tryz.underlying22 Tryz.underlying71 (wf_u64 Hid64.out) 0
          have hS9 := ins_cut HPK.out.1 HPK.out.2.1 HI.out HPK.out.2.2.1 HPK.out.2.2.2.1 HPK.out.2.2.2.2 Hid64.out (w8 := w8) (w9 := w9) (by rw [EV.out]; exact HR8.out.2.2) hM9 hG9
          rw [HMX.out, if_pos rfl, ← HL0.out HQ0.out] at hS9
          have hpm : ps ∉ [mb] := fun hm => HPN.out (by rw [List.mem_singleton] at hm; simp [hm])
          have j4 := hG9.cell k4 hpm
          have HTD := Lib.hid (ins_tdel HD7.out.2.1 HD7.out.2.2.1 HD7.out.2.2.2 hS9 Hid64.out)
          have HHM := Lib.hid hM9
          clear hS9 hM9 hpm
          go_wp2_with fail
          refine HTD.out.mono ?_
          rintro _ w10 ⟨r10, rfl, hS10⟩
          have HS10 := Lib.hid hS10; clear hS10
          go_wp2_with fail
          go_roundw
          case rel =>
            have h1 := HS10.out
            have h2 := HMS.out
            rw [if_pos HQ0.out] at h2
            rw [← h2] at h1
            refine ⟨0 + 1, by omega, by go_num, Lib.hid ?_⟩
            rw [HFS.out]
            unfold remF
            rw [HPE.out, ← HQ.out, HQ0.out]
            exact h1
          case measure => simp [intOf]; try omega
        · have hlen : (0 : Int) < q.length := by have := List.length_pos_iff.2 hq0; omega
          have hlen2 : 0 < q.length := by omega
          have HQ0 := Lib.hid hq0; clear hq0
          obtain ⟨w9, hrun9, hM9, hG9⟩ := hM8.put Tryz.underlying22 Tryz.underlying71 HML.out (wf_u64 Hid64.out) (v := .slice a8 q.length cp8) rfl
          have hS9 := ins_set (M := remMk s k 0) HD7.out.2.1 HD7.out.2.2.1 HD7.out.2.2.2 HPK.out.1 HPK.out.2.1 HI.out HPK.out.2.2.1 HPK.out.2.2.2.1 HPK.out.2.2.2.2 Hid64.out (w8 := w8) (w9 := w9) HR8.out.1 HQ0.out (by rw [EV.out]; exact HR8.out.2.2) (fun y hy => by rw [EV.out, ← HR8.out.2.1]; exact .inl hy) hM9 hG9
          rw [HMX.out, if_pos rfl] at hS9
          have HS9 := Lib.hid hS9
          have HHM := Lib.hid hM9
          clear hS9 hM9
          go_wp2_with fail
          go_roundw
          case rel =>
            have h1 := HS9.out
            have h2 := HMS.out
            rw [if_neg HQ0.out] at h2
            rw [← h2] at h1
            refine ⟨0 + 1, by omega, by go_num, Lib.hid ?_⟩
            rw [HFS.out]
            unfold remF
            rw [HPE.out, ← HQ.out]
            rw [h2] at h1 ⊢
            exact h1
          case measure => simp [intOf]; try omega
      · have hFr := HS2.out.fr
        have hd := hFr.blk HD7.out.1 HPN.out
        have c4 := hd.cell 4
        have c6 := hd.cell 6
        simp only [List.getElem?_cons_zero, List.getElem?_cons_succ] at c4 c6
        have HMO := Lib.hid HS2.out.mok
        clear hFr hd
        rename World => wo
        obtain ⟨lT', lb', c', hc', hT', ⟨iv, hI'⟩, hF', h5', h6'⟩ := HS2.out
        have hidE : idK (liveAt s.L k) 1 = e.v := by rw [← HE.out]; rfl
        have Hid64 := Lib.hid (idK_u64 HB.out.ok HU.out 1)
        have hmem := idK_mem HB.out.ok HU.out 1
        have hpe := remFk_at HB.out.ok HU.out (j := 1) (by omega)
        have hnd := incL_nodup HB.out.ok.one (idK (liveAt s.L k) 1)
        have hpl := Nat.le_trans (incL_len s.L (idK (liveAt s.L k) 1)) hLlen
        have HMS := Lib.hid (remMk_succ (s := s) (k := k) (j := 1) (by omega))
        have HL0 := Lib.hid (rem_len0 HB.out.ok HU.out (j := 1) (by omega))
        have HFS := Lib.hid (remFk_succ s k (j := 1) (by omega))
        rw [hidE] at Hid64 hmem hpe hnd hpl HMS HL0 HFS
        obtain ⟨p, hp⟩ : ∃ p, p = incL s.L e.v := ⟨_, rfl⟩
        rw [← hp] at hmem hpe hnd hpl HMS HL0
        have HPE := Lib.hid hpe; clear hpe
        clear hp hidE
        obtain ⟨av0, cv0, ev0⟩ := (hI'.row e.v Hid64.out).2.1.slice
        have hrow := (hI'.row e.v Hid64.out).2.1
        rw [HPE.out] at ev0 hrow
        rw [ev0] at hrow
        have EV := Lib.hid ev0
        have g1 := lookS (w' := wo) hI' Hid64.out ev0 rfl
        obtain ⟨i, hi⟩ : ∃ i, i = p.idxOf k := ⟨_, rfl⟩
        have hil : i < p.length := by rw [hi]; exact List.idxOf_lt_length_of_mem hmem
        have hpi : p[i]'hil = k := by subst hi; exact List.getElem_idxOf hil
        have HER := Lib.hid (show p.eraseIdx i = p.filter (· != k) by rw [hi]; exact erase_nodup hnd k)
        have hix := idx_ints hrow hpl hil hnd
        rw [hpi] at hix
        have HIX := Lib.hid hix; clear hix
        have HDL := Lib.hid (del_ints hrow hpl hil)
        have HMX := Lib.hid (show (iv e.v).isSome = true from (hI'.row e.v Hid64.out).1.2 (by rw [HPE.out]; exact List.ne_nil_of_mem hmem))
        clear hi hmem hnd hrow ev0 hpi
        have hml : (remMk s k 1).L.length < maxLen := by have := HMO.out.len; unfold maxLen; omega
        have HML := Lib.hid hml; clear hml
        have HI := Lib.hid hI'
        have HPK := Lib.hid (And.intro hc' (And.intro hT' (And.intro hF' (And.intro h5' h6'))))
        have hio : ∀ q, (Value.slice av0 p.length cv0).ownBlock = some q → q ≠ ps ∧ q ≠ mb := fun q hq => by
          have e1 := hc'.b q ((hI'.row e.v Hid64.out).2.2 q (by rw [EV.out]; exact hq))
          exact ⟨fun e => by have := hc'.p; rw [← e] at this; omega, fun e => by have := hc'.m; rw [← e] at this; omega⟩
        have HIO := Lib.hid hio
        clear hc' hT' hI' hF' h5' h6' hio
        have hi0 : (0 : Int) ≤ i := by omega
        have hi1 : decide ((0 : Int) ≤ i) = true := decide_eq_true hi0
        have hi2 : IntKind.i64.wrap ((i : Int) + 1) = (i : Int) + 1 := by simp [IntKind.wrap, IntKind.bits, IntKind.signed]; omega
        go_wp2_with fail
        refine HIX.out.mono ?_
        rintro _ wo' ⟨rfl, rfl⟩
        go_wp2_with fail
        refine HDL.out.mono ?_
        rintro _ w8 ⟨v8, rfl, hr8, ho8, hF8⟩
        rw [HER.out] at hr8
        obtain ⟨a8, cp8, rfl⟩ := hr8.slice
        have hpo : ps ∉ (Value.slice av0 p.length cv0).ownBlock.toList := fun hm => (HIO.out ps (by simpa using hm)).1 rfl
        have hmo : mb ∉ (Value.slice av0 p.length cv0).ownBlock.toList := fun hm => (HIO.out mb (by simpa using hm)).2 rfl
        have k4 := hF8.cell c4 hpo
        have k6 := hF8.cell c6 hpo
        have hM8 := HI.out.im.same (hF8.keep mb HI.out.im.lt hmo)
        have HR8 := Lib.hid (And.intro hr8 (And.intro ho8 hF8))
        clear hr8 ho8 c4 c6 g1
        have HFL := Lib.hid (show List.filter (fun x => x != k) p = List.filter (· != k) p from rfl)
        obtain ⟨q, hq⟩ : ∃ q, q = p.filter (· != k) := ⟨_, rfl⟩
        rw [← hq] at HR8 HMS HL0 ⊢
        have HQ := Lib.hid hq; clear hq
        by_cases hq0 : q = []
        · have hlen : q.length = 0 := by rw [hq0]; rfl
          have HQ0 := Lib.hid hq0; clear hq0
          obtain ⟨w9, hrun9, hM9, hG9⟩ := hM8.del Tryz.underlying22 Tryz.underlying71 (wf_u64 Hid64.out) 0
          have hS9 := ins_cut HPK.out.1 HPK.out.2.1 HI.out HPK.out.2.2.1 HPK.out.2.2.2.1 HPK.out.2.2.2.2 Hid64.out (w8 := w8) (w9 := w9) (by rw [EV.out]; exact HR8.out.2.2) hM9 hG9
          rw [HMX.out, if_pos rfl, ← HL0.out HQ0.out] at hS9
          have hpm : ps ∉ [mb] := fun hm => HPN.out (by rw [List.mem_singleton] at hm; simp [hm])
          have j4 := hG9.cell k4 hpm
          have HTD := Lib.hid (ins_tdel HD7.out.2.1 HD7.out.2.2.1 HD7.out.2.2.2 hS9 Hid64.out)
          have HHM := Lib.hid hM9
          clear hS9 hM9 hpm
          go_wp2_with fail
          refine HTD.out.mono ?_
          rintro _ w10 ⟨r10, rfl, hS10⟩
          have HS10 := Lib.hid hS10; clear hS10
          go_wp2_with fail
          go_roundw
          case rel =>
            have h1 := HS10.out
            have h2 := HMS.out
            rw [if_pos HQ0.out] at h2
            rw [← h2] at h1
            refine ⟨1 + 1, by omega, by go_num, Lib.hid ?_⟩
            rw [HFS.out]
            unfold remF
            rw [HPE.out, ← HQ.out, HQ0.out]
            exact h1
          case measure => simp [intOf]; try omega
        · have hlen : (0 : Int) < q.length := by have := List.length_pos_iff.2 hq0; omega
          have hlen2 : 0 < q.length := by omega
          have HQ0 := Lib.hid hq0; clear hq0
          obtain ⟨w9, hrun9, hM9, hG9⟩ := hM8.put Tryz.underlying22 Tryz.underlying71 HML.out (wf_u64 Hid64.out) (v := .slice a8 q.length cp8) rfl
          have hS9 := ins_set (M := remMk s k 1) HD7.out.2.1 HD7.out.2.2.1 HD7.out.2.2.2 HPK.out.1 HPK.out.2.1 HI.out HPK.out.2.2.1 HPK.out.2.2.2.1 HPK.out.2.2.2.2 Hid64.out (w8 := w8) (w9 := w9) HR8.out.1 HQ0.out (by rw [EV.out]; exact HR8.out.2.2) (fun y hy => by rw [EV.out, ← HR8.out.2.1]; exact .inl hy) hM9 hG9
          rw [HMX.out, if_pos rfl] at hS9
          have HS9 := Lib.hid hS9
          have HHM := Lib.hid hM9
          clear hS9 hM9
          go_wp2_with fail
          go_roundw
          case rel =>
            have h1 := HS9.out
            have h2 := HMS.out
            rw [if_neg HQ0.out] at h2
            rw [← h2] at h1
            refine ⟨1 + 1, by omega, by go_num, Lib.hid ?_⟩
            rw [HFS.out]
            unfold remF
            rw [HPE.out, ← HQ.out]
            rw [h2] at h1 ⊢
            exact h1
          case measure => simp [intOf]; try omega
    · obtain rfl : j = 2 := by omega
      have hFr := HS2.out.fr
      have hxb := hFr.blk HEnd.out.2.1 (HEnd.out.1 _ (by omega))
      have heb := hFr.blk HEnd.out.2.2.1 (HEnd.out.1 _ (by have := HF.out.2; omega))
      obtain ⟨e0, e1, e2, e3, e4, e5, e6⟩ := heb.lvAt
      simp only [Nat.zero_add] at e0 e1 e2 e3 e4 e5 e6
      have z := hxb.frozen
      have t0 := hxb.cell 0; have t1 := hxb.cell 1; have t2 := hxb.cell 2; have t3 := hxb.cell 3; have t4 := hxb.cell 4; have t5 := hxb.cell 5; have t6 := hxb.cell 6
      simp only [List.getElem?_cons_zero, List.getElem?_cons_succ] at t0 t1 t2 t3 t4 t5 t6
      have HXB := Lib.hid (hxb.put7 e)
      clear hFr hxb heb hlt hj
      rename World => wo
      go_wp2_with fail
      have hrr := HXB.out.lvAt
      unfold LvAt Go.Proofs.YtbegdgnhpklceaaGreat.put7 at hrr
      simp only [Nat.zero_add] at hrr
      obtain ⟨r0, r1, r2, r3, r4, r5, r6⟩ := hrr
      refine bodyPost_ret (v := .tuple #[lvA e, .int .i64 0]) (by simp [results, Tryz.results13, go_sem, r0, r1, r2, r3, r4, r5, r6]) rfl ⟨by rw [HE.out], ?_⟩
      clear r0 r1 r2 r3 r4 r5 r6 t0 t1 t2 t3 t4 t5 t6 e0 e1 e2 e3 e4 e5 e6 z
      exact rem_done HB0.out HU.out e HS2.out HD7.out.1 HEnd.out.2.2.2.1 HEnd.out.2.2.2.2.1 ((HF.out.1.mono (by simp)).trans' HEnd.out.2.2.2.2.2) (by have := HF.out.2; omega)
end
end Go.Proofs.YtbegdgnhpklceaaGreat

namespace Go.Proofs.YtbegdgnhpklceaaGreat
open Go.RowKit
set_option maxRecDepth 10000
set_option maxHeartbeats 1000000

theorem st_from (V E last : Nat) (w : World) (hV : V ≤ 4096) (hE : E ≤ 16384) (hl : last ≤ 9223372036854775807) :
    Calls Tryz.prog 8 #[.int .i64 V, .int .i64 E, .int .u64 last] w fun e w' => ∃ ps, e = .returned (.tuple #[.pointer (some ⟨ps, 0, none⟩), .int .i64 0]) ∧ ∃ K, StoreAt w' ps (Sm.new V E last) K ∧ Fr [] w w' ∧ ∀ q ∈ K, w.heap.size ≤ q := by
  have d1 : decide ((V : Int) < 0) = false := decide_eq_false (by omega)
  have d2 : decide ((4096 : Int) < V) = false := decide_eq_false (by omega)
  have d3 : decide ((E : Int) < 0) = false := decide_eq_false (by omega)
  have d4 : decide ((16384 : Int) < E) = false := decide_eq_false (by omega)
  have d5 : decide ((9223372036854775807 : Int) < last) = false := decide_eq_false (by omega)
  have d6 : decide ((4096 : Nat) < V) = false := decide_eq_false (by omega)
  have d7 : decide ((16384 : Nat) < E) = false := decide_eq_false (by omega)
  have d8 : decide ((9223372036854775807 : Nat) < last) = false := decide_eq_false (by omega)
  have hmk : ∀ W : World, (Instr.makeMap 71 none).run Tryz.prog W = .ok (.map (some W.heap.size)) (W.alloc (.map #[] 0)) := fun W => by kernel_rfl
  have HA := Lib.hid (arena_new E w (by omega))
  have HT := Lib.hid (fun w' => tab_new V w' (by omega))
  go_enter Tryz.func8, Tryz.ntmps8
  go_wp2_with fail
  refine HA.out.mono ?_
  rintro _ w1 ⟨rfl, hA, hF1⟩
  go_wp2_with fail
  refine (HT.out w1).mono ?_
  rintro _ w2 ⟨pt, rfl, l, hT, hF2, hl2⟩
  have HH := Lib.hid (And.intro hA (And.intro hF1 (And.intro hT (And.intro hF2 hl2)))); clear hA hF1 hT hF2 hl2 HA HT
  go_wp2_with fail
  go_ret2
  obtain ⟨hA, hF1, hT, hF2, hl2⟩ := HH.out
  have hal := hA.lt w.heap.size (by simp)
  have hsz := hF2.size
  have htl := hT.lt
  have hln : ∀ b ∈ l, w1.heap.size ≤ b := fun b hb => (hl2 b hb).resolve_left (by simp)
  have hF : Fr [] w2 ((w2.alloc (.map #[] 0)).alloc (.cells #[.int .i64 V, .int .i64 E, .int .u64 last, ptr w.heap.size, ptr pt, nilS, .map (some w2.heap.size)] 73)) := ((Fr.refl [] w2).alloc _).alloc _
  have hB := Blk.new (w2.alloc (.map #[] 0)) [.int .i64 V, .int .i64 E, .int .u64 last, ptr w.heap.size, ptr pt, nilS, .map (some w2.heap.size)] 73
  rw [World.size_alloc] at hB
  refine ⟨_, rfl, _, ⟨w.heap.size, pt, w2.heap.size, 0, nilS, [w.heap.size], l, [], fun x => if x < w.heap.size + 1 then 2 else if x < w2.heap.size then 3 else if x = w2.heap.size then 1 else 0, ⟨hB, ?_, ?_, RowV.nil _, ?_, ?_, Nat.zero_le _, Sm.ok_new hV hE (by omega), ?_⟩, rfl⟩, ?_, ?_⟩
  · exact hA.fr (hF2.trans' hF) (by simp)
  · exact hT.fr hF (by simp)
  · refine ⟨fun _ => none, ((IMap.made w2 Tryz.prog 22 .u64 okS).same (Below.heap_alloc _ _ _ (by simp))), by simp, by simp, fun id hid => ⟨by simp [Sm.new, incL], RowI.nil _, fun q e => (by cases e)⟩, fun id id' q _ _ e => (by cases e)⟩
  · intro e he; cases he
  · refine ⟨?_, ?_, fun b hb => ?_, fun b hb => ?_, fun q e => (by cases e), fun b hb => (by cases hb)⟩
    · rw [if_neg (by omega), if_neg (by omega), if_neg (by omega)]
    · rw [if_neg (by omega), if_neg (by omega), if_pos rfl]
    · rw [List.mem_singleton] at hb; rw [if_pos (by omega)]
    · have h1 := hln b hb; have h2 := htl b hb
      rw [if_neg (by omega), if_pos h2]
  · exact (hF1.trans' hF2).trans' hF
  · have hs1 := hF1.size
    intro q hq
    simp only [stK, List.mem_cons, List.mem_append, Value.ownBlock, Option.toList_none, List.not_mem_nil, or_false] at hq
    rcases hq with rfl | rfl | rfl | hq
    · omega
    · omega
    · omega
    · have := hln q hq; omega
theorem st_new (V E : Nat) (w : World) (hV : V ≤ 4096) (hE : E ≤ 16384) :
    Calls Tryz.prog 5 #[.int .i64 V, .int .i64 E] w fun e w' => ∃ ps, e = .returned (.tuple #[.pointer (some ⟨ps, 0, none⟩), .int .i64 0]) ∧ ∃ K, StoreAt w' ps (Sm.new V E 0) K ∧ Fr [] w w' ∧ ∀ q ∈ K, w.heap.size ≤ q := by
  have HF := Lib.hid (st_from V E 0 w hV hE (by omega))
  go_enter Tryz.func5, Tryz.ntmps5
  go_wp2_with fail
  refine HF.out.mono ?_
  rintro _ w1 ⟨ps, rfl, h⟩
  have HH := Lib.hid h; clear h
  go_wp2
  go_ret2
  exact ⟨ps, rfl, HH.out⟩
end Go.Proofs.YtbegdgnhpklceaaGreat
