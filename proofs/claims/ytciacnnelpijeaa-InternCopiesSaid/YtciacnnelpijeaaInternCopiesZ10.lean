/- The document's table: Put. -/
import Derived.Test.YtciacnnelpijeaaInternCopiesZ4
import Derived.Test.YtciacnnelpijeaaInternCopiesZ9
import Derived.Test.YtciacnnelpijeaaInternCopiesZ5
import Derived.Test.YtciacnnelpijeaaInternCopiesZ1
import Derived.Deep.RegionHeld3
import Derived.Deep.RegionLaw
import Derived.StillTailTactics
import Derived.Deep.Upon
/- intern: List. -/
namespace Go.Proofs.Ytciacnnelpijeaa
open Go.RowKit
set_option maxRecDepth 10000
set_option maxHeartbeats 800000

def encId (l : List Nat) : List Value := l.map fun (x : Nat) => .int .u64 x
def sortN (l : List Nat) : List Nat := l.mergeSort (fun x y => decide (x ≤ y))
theorem sortN_len (l : List Nat) : (sortN l).length = l.length := by simp [sortN]

theorem made_ids (n : Nat) : madeCells (Value.int .u64 0).cells n = (fnRow n (idF (fun _ => 0))).toArray := by
  apply Array.ext
  · simp [madeCells, fnRow]
  · intro i h1 h2
    simp [madeCells, fnRow, idF, Value.cells, Nat.mod_one]
theorem run_make0u (c : Nat) (w : World) (hn : c ≤ 1048576) : (Instr.makeSlice 37 (.int .i64 0) (.int .i64 c)).run Try.prog w = .ok (.slice (some ⟨w.heap.size, 0, none⟩) 0 c) (w.alloc (.cells (fnRow c (idF (fun _ => 0))).toArray 23)) := by
  obtain ⟨i0, hi, hz0, hz1, hz2⟩ := info_parts Try.info23
  have h := run_make (P := Try.prog) w 37 23 i0 (.int .u64 0) Try.underlying37 hi hz0 .i64 .i64 0 c (by omega) (by omega) (by rw [hz2]; omega) (by omega)
  rw [hz1] at h
  simp only [Int.toNat_natCast, Nat.mul_one] at h
  rw [made_ids] at h
  exact h

theorem table_list {w : World} {pt : Nat} {T : Tb} {l : List Nat} (h : TableAt w pt T l) :
    Calls Try.prog 25 #[ptr pt] w fun e w' => ∃ v, e = .returned v ∧ w'.ownsRow 0 23 1 v (usedL T.A).length (encId (sortN ((usedL T.A).map T.ids))) ∧ (∀ q, v.ownBlock = some q → w.heap.size ≤ q) ∧ Fr [] w w' := by
  have HT := Lib.hid h
  have hlt := h.lt
  obtain ⟨cpc, rst, pa, gc, n, vi, C, la, h1, h2, h3, h4, rfl, hnd, hM, hs, hT, hinj, hb64⟩ := h
  clear hT hinj hM hs h4 hnd
  have hok := h2.ok
  have hs := hok.hs
  have hb := hok.hb
  have c0 := h1.cell 0
  have c1 := h1.cell 1
  have c2 := h1.cell 2
  simp only [List.getElem?_cons_zero, List.getElem?_cons_succ] at c0 c1 c2
  have husd : T.A.used ≤ 65536 := by unfold Ar.used; omega
  have hmk := run_make0u T.A.used w (by omega)
  have hown0 := owns_made (w := w) (e := 23) (cs := fnRow T.A.used (idF fun _ => 0)) T.A.used (fnRow_len _ _) (by omega)
  have HO0 := Lib.hid hown0; clear hown0
  have HF0 : Hid (Fr [] w (w.alloc (.cells (fnRow T.A.used (idF fun _ => 0)).toArray 23))) := Lib.hid ((Fr.refl [] w).alloc _)
  have d1 : (w.alloc (.cells (fnRow T.A.used (idF fun _ => 0)).toArray 23)).cell? ⟨pt, 1, none⟩ = some (ptr pa) := HF0.out.cell c1 (by simp)
  have HLen := Lib.hid (arena_len h2)
  have HLi := Lib.hid (arena_list (h2.fr HF0.out (by simp)))
  have H3 := Lib.hid (And.intro h3 h1); clear h3 h1 h2
  have HLt := Lib.hid hlt; clear hlt
  have hul : (usedL T.A).length ≤ 65536 := by rw [usedL_len hok]; exact husd
  have hum : ∀ i (hi : i < (usedL T.A).length), (usedL T.A)[i] < T.A.begun := fun i hi => (mem_usedL.1 (List.getElem_mem hi)).1
  generalize usedL T.A = us at *
  go_enter Try.func25, Try.ntmps25
  go_wp2_with (first | (go_at_call 32; refine (table_valid pt _ c0).mono ?_; rintro e w' ⟨rfl, rfl⟩) | (go_at_call 37; refine HLen.out.mono ?_; rintro e w' ⟨rfl, rfl⟩) | (go_at_call 43; refine HLi.out.mono ?_; rintro e w2 ⟨vl, rfl, hownl, hql, hF2⟩; obtain ⟨al, cl, rfl⟩ := ownsRow_slice hownl))
  have HO0' := Lib.hid (ownsRow_same HO0.out (fun q hq => hF2.keep q (HO0.out.lt q hq).2 (by simp)))
  have HF2 := Lib.hid (HF0.out.trans' hF2)
  have hpl : ∀ q, (Value.slice al us.length cl).ownBlock = some q → w.heap.size + 1 ≤ q := fun q hq => by have := hql q hq; simpa using this
  have HQL := Lib.hid hpl; clear hpl hql
  have HOL := Lib.hid hownl; clear hownl hF2
  generalize w.alloc (.cells (fnRow T.A.used (idF fun _ => 0)).toArray 23) = w1 at *
  clear c0 c1 c2 hmk d1 HLen HLi HO0 HF0
  go_loopw [3, 21] (fun v si wr => ∃ i : Nat, i ≤ us.length ∧ si = .int .i64 i ∧ Hid (Fr [] w wr) ∧ Hid (wr.ownsRow 0 3 1 (.slice al us.length cl) us.length (encN us)) ∧ wr.ownsRow 0 23 1 v i (encId ((us.take i).map T.ids)) ∧
    Hid (v.ownBlock.isSome = true ∧ ∀ q, v.ownBlock = some q → w.heap.size ≤ q ∧ (Value.slice al us.length cl).ownBlock ≠ some q)) (fun _ si _ => us.length - (intOf si).toNat)
  case atStart =>
    refine ⟨0, Nat.zero_le _, rfl, HF2, HOL, by simpa [encId] using HO0'.out, Lib.hid ⟨rfl, fun q e => ?_⟩⟩
    simp only [Value.ownBlock, Option.some.injEq] at e
    refine ⟨by omega, fun e2 => ?_⟩
    have := HQL.out q e2
    omega
  case round =>
    clear HO0' HF2 HOL
    obtain ⟨i, hi, rfl, HF, HOL, hown, HQ⟩ := hrel
    obtain ⟨a8, c8, rfl⟩ := ownsRow_slice hown
    by_cases hlt : i < us.length
    · have hil : (i : Int) < us.length := by omega
      obtain ⟨gl, cl', e, _, hgl, hcl, _⟩ := ownsRow_at HOL.out hlt
      simp only [Value.slice.injEq, true_and] at e
      obtain ⟨rfl, rfl⟩ := e
      have hx : (encN us)[i]? = some (.int .i64 (us[i] : Nat)) := by simp [encN, hlt]
      rw [hx] at hcl
      have hxb := hum i hlt
      obtain ⟨gi, ci, e, _, hgi, hci, _⟩ := ownsRow_at H3.out.1 hxb
      subst e
      rw [fnRow_at hxb] at hci
      simp only [idF] at hci
      have c2 := (HF.out.blk H3.out.2 (by simp)).cell 2
      simp only [List.getElem?_cons_zero, List.getElem?_cons_succ] at c2
      have hci' := HF.out.cell hci (by simp)
      have Htk := Lib.hid (show (us.take (i + 1)).map T.ids = (us.take i).map T.ids ++ [T.ids us[i]] by rw [List.take_add_one, List.getElem?_eq_getElem hlt, List.map_append]; rfl)
      clear hx hci
      generalize us[i] = x at *
      have hxi : (x : Int) < T.A.begun := by omega
      have hx0 : (0 : Int) ≤ x := by omega
      generalize T.A.begun = bg at *
      generalize T.ids x = y at *
      go_wp2_with (at_builtin; refine wpList_app1 rfl _ _ 37 rfl 23 (.int .u64 0) 8 Try.underlying37 Try.info23 rfl (.slice a8 i c8) i _ rfl (hown.alloc _) wr.heap.size (.int .u64 y) rfl (cell_new1 _ _ _ _ rfl) rfl (by omega) (by decide) ?_; intro g' cap' w4 hown4 hgrow4 hg4; have hF4 : Fr (Value.slice a8 i c8).ownBlock.toList wr w4 := ((Fr.refl _ _).alloc _).grown hgrow4 (fun q e => .inl (by simp [e])))
      go_roundw
      case rel =>
        have hs4 := HF.out.size
        simp only [World.size_alloc] at hg4
        refine ⟨i + 1, by omega, by go_num, Lib.hid (HF.out.trans hF4 (fun q hq => .inr (HQ.out.2 q (by simpa using hq)).1)), Lib.hid (ownsRow_same HOL.out (fun q hq => hF4.keep q (HOL.out.lt q hq).2 (fun hm => (HQ.out.2 q (by simpa using hm)).2 hq))), ?_, Lib.hid ⟨rfl, fun q e => ?_⟩⟩
        · rw [Htk.out]
          have : ∀ (l : List Nat) (y : Nat), encId (l ++ [y]) = encId l ++ [.int .u64 y] := fun l y => by simp [encId]
          rw [this]; exact hown4
        · simp only [Value.ownBlock, Option.some.injEq] at e
          subst e
          rcases hg4 with e | e
          · exact HQ.out.2 _ e
          · refine ⟨by omega, fun e2 => ?_⟩
            have := (HOL.out.lt _ e2).2
            omega
      case measure => simp [intOf]; omega
    · obtain rfl : i = us.length := by omega
      rw [List.take_of_length_le (Nat.le_refl _)] at hown
      have hlm : (us.map T.ids).length = us.length := by simp
      have hsr := sort_row (v := .slice a8 us.length c8) (l := us.map T.ids) (by rw [hlm]; exact hown) HQ.out.1 (by rw [hlm]; omega)
      rw [hlm] at hsr
      have HSr := Lib.hid hsr; clear hsr hown
      go_wp2_with fail
      refine HSr.out.mono ?_
      rintro _ w5 ⟨rfl, hown5, hF5⟩
      have H5 := Lib.hid (And.intro hown5 hF5); clear hown5 hF5
      go_wp2
      go_ret
      exact ⟨_, rfl, H5.out.1, fun q hq => (HQ.out.2 q hq).1, HF.out.trans H5.out.2 (fun q hq => .inr (HQ.out.2 q (by simpa using hq)).1)⟩
end Go.Proofs.Ytciacnnelpijeaa

/- The document's table: List. -/
namespace Go.Proofs.Ytciacnnelpijeaa
open Go.RowKit
set_option maxRecDepth 10000
set_option maxHeartbeats 800000

theorem sortN_perm (l : List Nat) : (sortN l).Perm l := List.mergeSort_perm _ _
theorem sortN_le (l : List Nat) : (sortN l).Pairwise (· ≤ ·) := by
  have := List.pairwise_mergeSort (le := fun x y : Nat => decide (x ≤ y)) (fun a b c h1 h2 => by simp at *; omega) (fun a b => by simp; omega) l
  exact this.imp (fun h => by simpa using h)
theorem sortN_lt {l : List Nat} (h : l.Nodup) : (sortN l).Pairwise (· < ·) := by
  have h1 := sortN_le l
  have h2 : (sortN l).Nodup := (sortN_perm l).nodup_iff.2 h
  exact (h1.and h2).imp (fun h => by omega)
theorem sortN_mem {l : List Nat} {x : Nat} : x ∈ sortN l ↔ x ∈ l := (sortN_perm l).mem_iff
theorem sortN_eq {l l' : List Nat} (h : l.Perm l') : sortN l = sortN l' :=
  ((sortN_perm l).trans (h.trans (sortN_perm l').symm)).eq_of_pairwise (le := fun x y => decide (x ≤ y)) (fun a b _ _ h1 h2 => by simp at *; omega) ((sortN_le l).imp (fun h => by simpa using h)) ((sortN_le l').imp (fun h => by simpa using h))

def elig (s : List Nat) (k x : Nat) : Bool := decide (k = 0) || decide (s.getD (k - 1) 0 < x)
def PickAt (L : List (Nat × Nat)) (s : List Nat) (k j : Nat) (f : Int) : Prop :=
  (f = -1 ∧ ∀ i (hi : i < L.length), i < j → elig s k L[i].1 = false) ∨ (∃ m, ∃ hm : m < L.length, f = m ∧ elig s k L[m].1 = true ∧ ∀ i (hi : i < L.length), i < j → elig s k L[i].1 = true → L[m].1 ≤ L[i].1)
section
variable {L : List (Nat × Nat)} {s : List Nat} {k j : Nat} {f : Int}
theorem pick_zero : PickAt L s k 0 (-1) := .inl ⟨rfl, fun _i _ h => absurd h (Nat.not_lt_zero _)⟩
theorem pick_no (hj : j < L.length) (h : PickAt L s k j f) (he : elig s k L[j].1 = false) : PickAt L s k (j + 1) f := by
  rcases h with ⟨rfl, h⟩ | ⟨m, hm, rfl, h1, h2⟩
  · refine .inl ⟨rfl, fun i hi hlt => ?_⟩
    by_cases e : i = j
    · subst e; exact he
    · exact h i hi (by omega)
  · refine .inr ⟨m, hm, rfl, h1, fun i hi hlt hel => ?_⟩
    by_cases e : i = j
    · subst e; rw [he] at hel; cases hel
    · exact h2 i hi (by omega) hel
theorem pick_first (hj : j < L.length) (h : PickAt L s k j (-1)) (he : elig s k L[j].1 = true) : PickAt L s k (j + 1) (j : Int) := by
  rcases h with ⟨_, h⟩ | ⟨m, hm, e, _⟩
  · refine .inr ⟨j, hj, rfl, he, fun i hi hlt hel => ?_⟩
    by_cases e : i = j
    · subst e; exact Nat.le_refl _
    · rw [h i hi (by omega)] at hel; cases hel
  · omega
theorem pick_less {m : Nat} (hj : j < L.length) (hm : m < L.length) (h : PickAt L s k j (m : Int)) (he : elig s k L[j].1 = true) (hlt : L[j].1 < L[m].1) : PickAt L s k (j + 1) (j : Int) := by
  rcases h with ⟨e, _⟩ | ⟨m', hm', e, h1, h2⟩
  · omega
  · obtain rfl : m = m' := by omega
    refine .inr ⟨j, hj, rfl, he, fun i hi hl hel => ?_⟩
    by_cases e : i = j
    · subst e; exact Nat.le_refl _
    · have := h2 i hi (by omega) hel; omega
theorem pick_more {m : Nat} (hj : j < L.length) (hm : m < L.length) (h : PickAt L s k j (m : Int)) (hlt : ¬ L[j].1 < L[m].1) : PickAt L s k (j + 1) (m : Int) := by
  rcases h with ⟨e, _⟩ | ⟨m', hm', e, h1, h2⟩
  · omega
  · obtain rfl : m = m' := by omega
    refine .inr ⟨m, hm, rfl, h1, fun i hi hl hel => ?_⟩
    by_cases e : i = j
    · subst e; omega
    · exact h2 i hi (by omega) hel
theorem pick_end (hnd : (L.map (·.1)).Nodup) (hk : k < L.length) (h : PickAt L (sortN (L.map (·.1))) k L.length f) : ∃ m, ∃ hm : m < L.length, f = m ∧ L[m].1 = (sortN (L.map (·.1))).getD k 0 := by
  have hlt := sortN_lt hnd
  have hlen : (sortN (L.map (·.1))).length = L.length := by rw [sortN_len]; simp
  have hpw := List.pairwise_iff_getElem.1 hlt
  have hgd : ∀ q (hq : q < (sortN (L.map (·.1))).length), (sortN (L.map (·.1))).getD q 0 = (sortN (L.map (·.1)))[q] := fun q hq => by rw [List.getD_eq_getElem?_getD, List.getElem?_eq_getElem hq]; rfl
  have hel : ∀ q (hq : q < (sortN (L.map (·.1))).length), elig (sortN (L.map (·.1))) k (sortN (L.map (·.1)))[q] = true ↔ k ≤ q := by
    intro q hq
    unfold elig
    by_cases hk0 : k = 0
    · subst hk0; simp
    · rw [hgd (k - 1) (by omega)]
      simp only [hk0, decide_false, Bool.false_or, decide_eq_true_eq]
      constructor
      · intro hl
        apply Classical.byContradiction
        intro hc
        by_cases e : q = k - 1
        · subst e; omega
        · have := hpw q (k - 1) hq (by omega) (by omega); omega
      · intro hl; exact hpw (k - 1) q (by omega) hq (by omega)
  have hmem : ∀ i (hi : i < L.length), ∃ q, ∃ hq : q < (sortN (L.map (·.1))).length, (sortN (L.map (·.1)))[q] = L[i].1 := by
    intro i hi
    have : L[i].1 ∈ sortN (L.map (·.1)) := sortN_mem.2 (List.mem_map.2 ⟨_, List.getElem_mem hi, rfl⟩)
    obtain ⟨q, hq, e⟩ := List.mem_iff_getElem.1 this
    exact ⟨q, hq, e⟩
  have hk' : k < (sortN (L.map (·.1))).length := by omega
  have hsk : (sortN (L.map (·.1)))[k] ∈ L.map (·.1) := sortN_mem.1 (List.getElem_mem hk')
  obtain ⟨p, hp, hpe⟩ := List.mem_map.1 hsk
  obtain ⟨i, hi, rfl⟩ := List.mem_iff_getElem.1 hp
  have hei : elig (sortN (L.map (·.1))) k L[i].1 = true := by rw [hpe]; exact (hel k hk').2 (Nat.le_refl _)
  rcases h with ⟨_, h⟩ | ⟨m, hm, rfl, h1, h2⟩
  · rw [h i hi hi] at hei; cases hei
  · refine ⟨m, hm, rfl, ?_⟩
    have hle := h2 i hi hi hei
    obtain ⟨q, hq, hqe⟩ := hmem m hm
    rw [← hqe] at h1
    have hkq := (hel q hq).1 h1
    rw [hgd k hk', ← hqe]
    by_cases e : q = k
    · subst e; rfl
    · have := hpw k q hk' hq (by omega); omega
end

def slLen : Value → Nat
  | .slice _ n _ => n
  | _ => 0

section
variable {w w' : World} {pr : Nat} {vL vF : Value} {M : Md}
theorem rlist_w (h : RTab w pr vL vF M) (hok : M.Ok) :
    Calls Try.prog 42 #[ptr pr] w fun e w' => ∃ v, e = .returned v ∧ w'.ownsRow 0 23 1 v M.L.length (encId (sortN (M.L.map (·.1)))) ∧ (∀ q, v.ownBlock = some q → w.heap.size ≤ q) ∧ Fr [] w w' := by
  have hcnt := hok.cnt
  have hb := hok.ar.hb
  have hs := hok.ar.hs
  simp only [Md.ar] at hb hs
  have HV := Lib.hid (rvalid_w h)
  obtain ⟨a2, cap2, rfl⟩ := h.slL
  have Hids := Lib.hid hok.ids
  have HR := Lib.hid h; clear h hok
  have hln : (sortN (M.L.map (·.1))).length = M.L.length := by rw [sortN_len]; simp
  have Hend := Lib.hid (fun (k : Nat) (f : Int) (hk : k < M.L.length) (h : PickAt M.L (sortN (M.L.map (·.1))) k M.L.length f) => pick_end Hids.out hk h)
  clear Hids
  generalize sortN (M.L.map (·.1)) = s at *
  have Hln := Lib.hid hln; clear hln
  go_enter Try.func42, Try.ntmps42
  go_wp2_with fail
  refine HV.out.mono ?_
  rintro _ w ⟨rfl, rfl⟩
  go_wp2
  go_loopw [3] (fun v wr => ∃ k : Nat, k ≤ M.L.length ∧ Hid (Fr [] w wr) ∧ wr.ownsRow 0 23 1 v k (encId (s.take k)) ∧ Hid (∀ q, v.ownBlock = some q → w.heap.size ≤ q)) (fun v _ => M.L.length - slLen v)
  case atStart => exact ⟨0, Nat.zero_le _, Lib.hid (Fr.refl _ _), World.ownsRow_nil _ _ _ _, Lib.hid (fun q e => by cases e)⟩
  case round =>
    obtain ⟨k, hk, HF, hown, HQ⟩ := hrel
    obtain ⟨a8, c8, rfl⟩ := ownsRow_slice hown
    obtain ⟨wo, rfl⟩ : ∃ wo : World, wo = wr := ⟨_, rfl⟩
    have HRr := Lib.hid (HR.out.fr0 HF.out)
    have c2 := HRr.out.hd.cell 2
    simp only [List.getElem?_cons_zero, List.getElem?_cons_succ] at c2
    by_cases hkn : k < M.L.length
    · have hk1 : (k : Int) < M.L.length := by omega
      have Hown := Lib.hid hown; clear hown
      go_wp2
      go_loopw [4, 5] (fun sf sy wr => wr = wo ∧ ∃ (j : Nat) (f : Int), j ≤ M.L.length ∧ sy = .int .i64 j ∧ sf = .int .i64 f ∧ Hid (PickAt M.L s k j f)) (fun _ sy _ => M.L.length - (intOf sy).toNat)
      case atStart => exact ⟨rfl, 0, -1, Nat.zero_le _, rfl, rfl, Lib.hid pick_zero⟩
      case round =>
        obtain ⟨rfl, j, f, hj, rfl, rfl, HP⟩ := hrel
        by_cases hjK : j < M.L.length
        · obtain ⟨b, cap, e, hb, q0, q1⟩ := item_at HRr.out.items hjK
          simp only [Value.slice.injEq, true_and] at e
          obtain ⟨rfl, rfl⟩ := e
          have hj1 : (j : Int) < M.L.length := by omega
          have hj0 : (0 : Int) ≤ j := by omega
          clear q1
          have hcase : (0 < k ∧ elig s k M.L[j].1 = false ∧ ∃ (g : Nat) (y : Nat), a8 = some ⟨g, 0, none⟩ ∧ wr.cell? ⟨g, k - 1, none⟩ = some (.int .u64 y) ∧ M.L[j].1 ≤ y ∧ (0 : Int) ≤ (k : Int) - 1) ∨
              (elig s k M.L[j].1 = true ∧ (k = 0 ∨ (0 < k ∧ ∃ (g : Nat) (y : Nat), a8 = some ⟨g, 0, none⟩ ∧ wr.cell? ⟨g, k - 1, none⟩ = some (.int .u64 y) ∧ y < M.L[j].1 ∧ (0 : Int) ≤ (k : Int) - 1))) := by
            by_cases hk0 : k = 0
            · subst hk0; exact .inr ⟨by simp [elig], .inl rfl⟩
            · obtain ⟨g, cap', e, _, hgl, hgc, _⟩ := ownsRow_at Hown.out (show k - 1 < k by omega)
              simp only [Value.slice.injEq, true_and] at e
              obtain ⟨rfl, rfl⟩ := e
              have hx : (encId (s.take k))[k - 1]? = some (.int .u64 (s.getD (k - 1) 0 : Nat)) := by
                have h1 : k - 1 < s.length := by rw [Hln.out]; omega
                have h2 : (s.take k)[k - 1]? = some s[k - 1] := by rw [List.getElem?_take, if_pos (by omega), List.getElem?_eq_getElem h1]
                have h3 : s.getD (k - 1) 0 = s[k - 1] := by rw [List.getD_eq_getElem?_getD, List.getElem?_eq_getElem h1]; rfl
                simp only [encId, List.getElem?_map, h2, h3, Option.map_some]
              rw [hx] at hgc
              have t1 : 0 < k := by omega
              have he : elig s k M.L[j].1 = decide (s.getD (k - 1) 0 < M.L[j].1) := by simp [elig, hk0]
              by_cases hle : M.L[j].1 ≤ s.getD (k - 1) 0
              · exact .inl ⟨t1, by rw [he]; exact decide_eq_false (by omega), g, _, rfl, hgc, hle, by omega⟩
              · exact .inr ⟨by rw [he]; exact decide_eq_true (by omega), .inr ⟨t1, g, _, rfl, hgc, by omega, by omega⟩⟩
          rcases hcase with ⟨t1, he, g, y, rfl, q9, t2, t3⟩ | ⟨he, hcs⟩
          · have HP1 := Lib.hid (pick_no hjK HP.out he)
            clear he
            generalize M.L[j].1 = x at *
            go_wp2
            go_roundw
            case rel => exact ⟨trivial, j + 1, f, by omega, by go_num, rfl, HP1⟩
            case measure => simp [intOf]; omega
          · have hp0 := HP.out
            rcases hp0 with ⟨rfl, _⟩ | ⟨m, hm, rfl, _, _⟩
            · have HP1 := Lib.hid (pick_first hjK HP.out he)
              have He := Lib.hid he; clear he
              generalize M.L[j].1 = x at *
              have t5 : decide ((-1 : Int) < 0) = true := by decide
              rcases hcs with rfl | ⟨t1, g, y, rfl, q9, t2, t3⟩
              all_goals
                go_wp2
                go_roundw
                case rel => exact ⟨trivial, j + 1, j, by omega, by go_num, rfl, HP1⟩
                case measure => simp [intOf]; omega
            · have t5 : decide ((m : Int) < 0) = false := decide_eq_false (by omega)
              obtain ⟨b', cap', e', hb', q0', q1'⟩ := item_at HRr.out.items hm
              simp only [Value.slice.injEq, Option.some.injEq, Addr.mk.injEq, and_true, true_and] at e'
              obtain ⟨rfl, rfl⟩ := e'
              clear q1'
              have hm1 : (m : Int) < M.L.length := by omega
              have hm0 : (0 : Int) ≤ m := by omega
              by_cases hl : M.L[j].1 < M.L[m].1
              · have HP1 := Lib.hid (pick_less hjK hm HP.out he hl)
                clear he
                generalize M.L[j].1 = x at *
                generalize M.L[m].1 = z at *
                rcases hcs with rfl | ⟨t1, g, y, rfl, q9, t2, t3⟩
                all_goals
                  go_wp2
                  go_roundw
                  case rel => exact ⟨trivial, j + 1, j, by omega, by go_num, rfl, HP1⟩
                  case measure => simp [intOf]; omega
              · have HP1 := Lib.hid (pick_more hjK hm HP.out hl)
                have hl2 : M.L[m].1 ≤ M.L[j].1 := by omega
                clear hl he
                generalize M.L[j].1 = x at *
                generalize M.L[m].1 = z at *
                rcases hcs with rfl | ⟨t1, g, y, rfl, q9, t2, t3⟩
                all_goals
                  go_wp2
                  go_roundw
                  case rel => exact ⟨trivial, j + 1, m, by omega, by go_num, rfl, HP1⟩
                  case measure => simp [intOf]; omega
        · obtain rfl : j = M.L.length := by omega
          obtain ⟨m, hm, rfl, hme⟩ := Hend.out k f hkn HP.out
          obtain ⟨b', cap', e', hb', q0', q1'⟩ := item_at HRr.out.items hm
          simp only [Value.slice.injEq, true_and] at e'
          obtain ⟨rfl, rfl⟩ := e'
          clear q1'
          have hm1 : (m : Int) < M.L.length := by omega
          have hm0 : (0 : Int) ≤ m := by omega
          have Hme : Hid (encId (s.take (k + 1)) = encId (s.take k) ++ [.int .u64 (M.L[m].1 : Nat)]) := by
            have h1 : k < s.length := by rw [Hln.out]; omega
            refine Lib.hid ?_
            have h2 : s.take (k + 1) = s.take k ++ [s[k]] := by rw [List.take_add_one, List.getElem?_eq_getElem h1]; rfl
            rw [h2, hme, List.getD_eq_getElem?_getD, List.getElem?_eq_getElem h1]
            unfold encId
            rw [List.map_append]; rfl
          clear hme
          generalize M.L[m].1 = x at *
          have hown := Hown.out
          clear HP
          go_wp2_with (at_builtin; refine wpList_app1 rfl _ _ 37 rfl 23 (.int .u64 0) 8 Try.underlying37 Try.info23 rfl (.slice a8 k c8) k _ rfl (hown.alloc _) wr.heap.size (.int .u64 x) rfl (cell_new1 _ _ _ _ rfl) rfl (by omega) (by decide) ?_; intro g' cap' w4 hown4 hgrow4 hg4; have hF4 : Fr (Value.slice a8 k c8).ownBlock.toList wr w4 := ((Fr.refl _ _).alloc _).grown hgrow4 (fun q e => .inl (by simp [e])))
          go_roundw
          case rel =>
            have hs4 := HF.out.size
            simp only [World.size_alloc] at hg4
            refine ⟨k + 1, by omega, Lib.hid (HF.out.trans hF4 (fun q hq => .inr (HQ.out q (by simpa using hq)))), by rw [Hme.out]; exact hown4, Lib.hid (fun q e => ?_)⟩
            simp only [Value.ownBlock, Option.some.injEq] at e
            subst e
            rcases hg4 with e | e
            · exact HQ.out _ e
            · omega
          case measure => simp [slLen]; omega
    · obtain rfl : k = M.L.length := by omega
      have hf : s.take M.L.length = s := by rw [← Hln.out]; exact List.take_length
      rw [hf] at hown
      have Hown := Lib.hid hown; clear hown hf
      go_wp2
      go_ret
      exact ⟨_, rfl, Hown.out, HQ.out, HF.out⟩
end
end Go.Proofs.Ytciacnnelpijeaa

/- 'append(nil, s...)': a copy of a row of one's own. -/
namespace Go.Proofs.Ytciacnnelpijeaa
open Go.RowKit

theorem ownsRow_base0 {w : World} {base : Nat} {e : TypeId} {size : Nat} {v : Value} {n : Nat} {xs : List Value} (h : w.ownsRow base e size v n xs) : w.ownsRow 0 e size v n xs :=
  ⟨h.1, h.2.elim .inl (fun ⟨g, cap, cur, k1, _, k3⟩ => .inr ⟨g, cap, cur, k1, Nat.zero_le _, k3⟩)⟩
theorem run_app_nil {P : Program} (w : World) (t ty e : TypeId) (i : TypeInfo) (z : Value) (size bytes : Nat) (ht : P.underlying t = some (.slice e)) (hi : P.info? e = some i) (hz : i.zero = some z)
    (hsize : i.size = size) (hby : i.bytes = bytes) (hzs : z.cells.size = size) (hsz : 0 < size)
    (x : Value) (m : Nat) (news : List Value) (hx : w.ownsRow 0 e size x m news) (h1 : ∀ u ∈ news, u.oneCell' = true) (h63 : m ≤ maxLen) (hbytes : m * bytes ≤ 140737488355328) :
    ∃ v' w', (Builtin.append_ #[t, t] ty #[.slice none 0 0, x]).run P w = .ok v' w' ∧ w'.ownsRow 0 e size v' m news ∧ Fr [] w w' ∧ ∀ q, v'.ownBlock = some q → w.heap.size ≤ q := by
  have hn : w.ownsRow w.heap.size e size (.slice none 0 0) 0 [] := World.ownsRow_nil _ _ _ _
  have hxs := hx.1
  rcases hx.2 with ⟨rfl, rfl⟩ | ⟨g, cap, cur, rfl, _, hg, hnc, hcm, hcs, htake⟩
  · refine ⟨_, _, run_append_owned_none w w.heap.size t ty e i size ht hi _ 0 [] hn, hx, Fr.refl _ _, fun q e => by cases e⟩
  · obtain ⟨v', w', hr, h2, h3, _⟩ := run_append_own (P := P) w w.heap.size t ty e i z size bytes ht hi hz hsize hby hzs hsz (.slice none 0 0) 0 [] hn ⟨g, 0, none⟩ m cap news hxs (hx.cells (g := g) rfl) h1 (by simpa using h63) (by simpa using hbytes) (Nat.le_refl _)
    simp only [Nat.zero_add, List.nil_append] at h2
    refine ⟨v', w', hr, ownsRow_base0 h2, ⟨h3.os, h3.tape, h3.output, h3.size, fun k hk _ => h3.block k hk (by simp [Value.ownBlock])⟩, fun q hq => ?_⟩
    rcases h2.2 with ⟨rfl, _⟩ | ⟨g', cap', cur', rfl, hgb, _⟩
    · cases hq
    · simp [Value.ownBlock] at hq; omega
theorem wp_app_nil {P : Program} {w : World} {o : Oper} {a : Act} {K : Act → World → Prop} {Q : Exit → Act → World → Prop} (s x : Operand) (t : TypeId)
    (ho : o.op = .call { callee := .builtin .append, args := #[s, x], argTypes := #[t, t] })
    (e : TypeId) (z : Value) (size bytes : Nat) (ht : P.underlying t = some (.slice e)) (hinfo : (P.info? e).map (fun i => (i.zero, i.size, i.bytes)) = some (some z, size, bytes)) (hzs : z.cells.size = size) (hsz : 0 < size)
    (hs : a.eval s = .slice none 0 0) (v : Value) (m : Nat) (news : List Value) (hv : a.eval x = v) (hx : w.ownsRow 0 e size v m news) (h1 : ∀ u ∈ news, u.oneCell' = true) (h63 : m ≤ maxLen) (hbytes : m * bytes ≤ 140737488355328)
    (h : ∀ v' w', w'.ownsRow 0 e size v' m news → Fr [] w w' → (∀ q, v'.ownBlock = some q → w.heap.size ≤ q) → K (a.put o.dst v') w') : o.wp P a w K Q := by
  obtain ⟨i0, hi, hz0, hz1, hz2⟩ := info_parts hinfo
  obtain ⟨v', w', hr, h2, h3, h4⟩ := run_app_nil (P := P) w t o.type e i0 z size bytes ht hi hz0 hz1 hz2 hzs hsz v m news hx h1 h63 hbytes
  unfold Oper.wp execOp
  simp only [ho, resolve, invoke, builtin, Sem.run_bind, Sem.run_pure, Result.andThen_ok, List.map_toArray, List.map_cons, List.map_nil, hs, hv, hr]
  exact h v' w' h2 h3 h4
theorem step_app_nil {P : Program} {w : World} {ops : Array Oper} {o : Oper} {a : Act} {K : Act → World → Prop} {Q : Exit → Act → World → Prop} {E : Prop} (hgd : o.guard = none) (s x : Operand) (t : TypeId)
    (ho : o.op = .call { callee := .builtin .append, args := #[s, x], argTypes := #[t, t] })
    (e : TypeId) (z : Value) (size bytes : Nat) (ht : P.underlying t = some (.slice e)) (hinfo : (P.info? e).map (fun i => (i.zero, i.size, i.bytes)) = some (some z, size, bytes)) (hzs : z.cells.size = size) (hsz : 0 < size)
    (hs : a.eval s = .slice none 0 0) (v : Value) (m : Nat) (news : List Value) (hv : a.eval x = v) (hx : w.ownsRow 0 e size v m news) (h1 : ∀ u ∈ news, u.oneCell' = true) (h63 : m ≤ maxLen) (hbytes : m * bytes ≤ 140737488355328)
    (h : ∀ v' w', w'.ownsRow 0 e size v' m news → Fr [] w w' → (∀ q, v'.ownBlock = some q → w.heap.size ≤ q) → K (a.put o.dst v') w') :
    if Region.wanted o (yielded ops a.tmps) = true then Oper.wp P o a w K Q else E := by
  rw [if_pos (by simp [Region.wanted, hgd])]
  exact wp_app_nil s x t ho e z size bytes ht hinfo hzs hsz hs v m news hv hx h1 h63 hbytes h
theorem wpList_app_nil {P : Program} {w : World} {ops : Array Oper} {rest : List Oper} {o : Oper} {a : Act} {Q : Exit → Act → World → Prop} (hgd : o.guard = none) (s x : Operand) (t : TypeId)
    (ho : o.op = .call { callee := .builtin .append, args := #[s, x], argTypes := #[t, t] })
    (e : TypeId) (z : Value) (size bytes : Nat) (ht : P.underlying t = some (.slice e)) (hinfo : (P.info? e).map (fun i => (i.zero, i.size, i.bytes)) = some (some z, size, bytes)) (hzs : z.cells.size = size) (hsz : 0 < size)
    (hs : a.eval s = .slice none 0 0) (v : Value) (m : Nat) (news : List Value) (hv : a.eval x = v) (hx : w.ownsRow 0 e size v m news) (h1 : ∀ u ∈ news, u.oneCell' = true) (h63 : m ≤ maxLen) (hbytes : m * bytes ≤ 140737488355328)
    (h : ∀ v' w', w'.ownsRow 0 e size v' m news → Fr [] w w' → (∀ q, v'.ownBlock = some q → w.heap.size ≤ q) → wpList P ops Q rest (a.put o.dst v') w') : wpList P ops Q (o :: rest) a w := by
  exact wpList_plain hgd fun K hK => wp_app_nil s x t ho e z size bytes ht hinfo hzs hsz hs v m news hv hx h1 h63 hbytes fun v' w' h2 h3 h4 => hK _ _ (h v' w' h2 h3 h4)
end Go.Proofs.Ytciacnnelpijeaa

/- 'append' of one element of several cells; 'append' at a step of a region that draws its order; onto an empty slice that was just made. -/
namespace Go.Proofs.Ytciacnnelpijeaa
open Go.RowKit

theorem wp_app {P : Program} {w : World} {o : Oper} {a : Act} {K : Act → World → Prop} {Q : Exit → Act → World → Prop} (s x : Operand) (t : TypeId)
    (ho : o.op = .call { callee := .builtin .append, args := #[s, x], argTypes := #[t, t] })
    (e : TypeId) (z : Value) (size bytes : Nat) (ht : P.underlying t = some (.slice e)) (hinfo : (P.info? e).map (fun i => (i.zero, i.size, i.bytes)) = some (some z, size, bytes)) (hzs : z.cells.size = size) (hsz : 0 < size)
    (v : Value) (n : Nat) (xs : List Value) (hs : a.eval s = v) (hown : w.ownsRow 0 e size v n xs)
    (b : Nat) (et : TypeId) (news : List Value) (hx : a.eval x = .slice (some ⟨b, 0, none⟩) 1 1) (hb : Blk w b et news) (hl : news.length = size) (h1 : ∀ u ∈ news, u.oneCell' = true)
    (hn : n + 1 ≤ 4294967296) (hby : bytes ≤ 1024)
    (h : ∀ g cap w', w'.ownsRow 0 e size (.slice (some ⟨g, 0, none⟩) (n + 1) cap) (n + 1) (xs ++ news) → w.grownBy w' v.ownBlock → (v.ownBlock = some g ∨ w.heap.size ≤ g) →
      K (a.put o.dst (.slice (some ⟨g, 0, none⟩) (n + 1) cap)) w') : o.wp P a w K Q := by
  obtain ⟨i0, hi, hz0, hz1, hz2⟩ := info_parts hinfo
  have hbb : (n + 1) * bytes ≤ 140737488355328 := by
    have : (n + 1) * bytes ≤ 4294967296 * 1024 := Nat.mul_le_mul hn hby
    omega
  obtain ⟨g, cap, w', hr, h2, h3, h4⟩ := run_app (P := P) w t o.type e i0 z size bytes ht hi hz0 hz1 hz2 hzs hsz v n xs hown ⟨b, 0, none⟩ 1 1 news (by rw [Nat.one_mul]; exact hl) (fun j u hj => by rw [Addr.add_lit, Nat.zero_add, hb.cell]; exact hj) h1 (by decide) (by unfold maxLen; omega) hbb
  unfold Oper.wp execOp
  simp only [ho, resolve, invoke, builtin, Sem.run_bind, Sem.run_pure, Result.andThen_ok, List.map_toArray, List.map_cons, List.map_nil, hs, hx, hr]
  exact h g cap w' h2 h3 h4

/-- 'append(s, x)': one element, which lies in a block of its own. -/
theorem wpList_appK {P : Program} {w : World} {ops : Array Oper} {rest : List Oper} {o : Oper} {a : Act} {Q : Exit → Act → World → Prop} (hgd : o.guard = none) (s x : Operand) (t : TypeId)
    (ho : o.op = .call { callee := .builtin .append, args := #[s, x], argTypes := #[t, t] })
    (e : TypeId) (z : Value) (size bytes : Nat) (ht : P.underlying t = some (.slice e)) (hinfo : (P.info? e).map (fun i => (i.zero, i.size, i.bytes)) = some (some z, size, bytes)) (hzs : z.cells.size = size) (hsz : 0 < size)
    (v : Value) (n : Nat) (xs : List Value) (hs : a.eval s = v) (hown : w.ownsRow 0 e size v n xs)
    (b : Nat) (et : TypeId) (news : List Value) (hx : a.eval x = .slice (some ⟨b, 0, none⟩) 1 1) (hb : Blk w b et news) (hl : news.length = size) (h1 : ∀ u ∈ news, u.oneCell' = true)
    (hn : n + 1 ≤ 4294967296) (hby : bytes ≤ 1024)
    (h : ∀ g cap w', w'.ownsRow 0 e size (.slice (some ⟨g, 0, none⟩) (n + 1) cap) (n + 1) (xs ++ news) → w.grownBy w' v.ownBlock → (v.ownBlock = some g ∨ w.heap.size ≤ g) →
      wpList P ops Q rest (a.put o.dst (.slice (some ⟨g, 0, none⟩) (n + 1) cap)) w') : wpList P ops Q (o :: rest) a w :=
  wpList_plain hgd fun _ hK => wp_app s x t ho e z size bytes ht hinfo hzs hsz v n xs hs hown b et news hx hb hl h1 hn hby fun g cap w' h2 h3 h4 => hK _ _ (h g cap w' h2 h3 h4)

theorem step_appK {P : Program} {w : World} {ops : Array Oper} {o : Oper} {a : Act} {K : Act → World → Prop} {Q : Exit → Act → World → Prop} {E : Prop} (hgd : o.guard = none) (s x : Operand) (t : TypeId)
    (ho : o.op = .call { callee := .builtin .append, args := #[s, x], argTypes := #[t, t] })
    (e : TypeId) (z : Value) (size bytes : Nat) (ht : P.underlying t = some (.slice e)) (hinfo : (P.info? e).map (fun i => (i.zero, i.size, i.bytes)) = some (some z, size, bytes)) (hzs : z.cells.size = size) (hsz : 0 < size)
    (v : Value) (n : Nat) (xs : List Value) (hs : a.eval s = v) (hown : w.ownsRow 0 e size v n xs)
    (b : Nat) (et : TypeId) (news : List Value) (hx : a.eval x = .slice (some ⟨b, 0, none⟩) 1 1) (hb : Blk w b et news) (hl : news.length = size) (h1 : ∀ u ∈ news, u.oneCell' = true)
    (hn : n + 1 ≤ 4294967296) (hby : bytes ≤ 1024)
    (h : ∀ g cap w', w'.ownsRow 0 e size (.slice (some ⟨g, 0, none⟩) (n + 1) cap) (n + 1) (xs ++ news) → w.grownBy w' v.ownBlock → (v.ownBlock = some g ∨ w.heap.size ≤ g) →
      K (a.put o.dst (.slice (some ⟨g, 0, none⟩) (n + 1) cap)) w') :
    if Region.wanted o (yielded ops a.tmps) = true then Oper.wp P o a w K Q else E := by
  rw [if_pos (by simp [Region.wanted, hgd])]
  exact wp_app s x t ho e z size bytes ht hinfo hzs hsz v n xs hs hown b et news hx hb hl h1 hn hby h

/-- 'append([]T{}, s...)'. -/
theorem run_app_mt {P : Program} (w : World) (t ty e : TypeId) (i : TypeInfo) (z : Value) (size bytes : Nat) (ht : P.underlying t = some (.slice e)) (hi : P.info? e = some i) (hz : i.zero = some z)
    (hsize : i.size = size) (hby : i.bytes = bytes) (hzs : z.cells.size = size) (hsz : 0 < size)
    (g : Nat) (hg : Blk w g e []) (x : Value) (m : Nat) (news : List Value) (hx : w.ownsRow 0 e size x m news) (h1 : ∀ u ∈ news, u.oneCell' = true) (h63 : m ≤ maxLen) (hbytes : m * bytes ≤ 140737488355328) :
    ∃ v' w', (Builtin.append_ #[t, t] ty #[.slice (some ⟨g, 0, none⟩) 0 0, x]).run P w = .ok v' w' ∧ w'.ownsRow 0 e size v' m news ∧ Fr [g] w w' ∧ ∀ q, v'.ownBlock = some q → q = g ∨ w.heap.size ≤ q := by
  have hn : w.ownsRow g e size (.slice (some ⟨g, 0, none⟩) 0 0) 0 [] := ⟨by simp, .inr ⟨g, 0, #[], rfl, Nat.le_refl _, hg, Nat.le_refl _, Nat.zero_le _, by simp, by simp⟩⟩
  have hxs := hx.1
  rcases hx.2 with ⟨rfl, rfl⟩ | ⟨gx, cap, cur, rfl, _, hgx, hnc, hcm, hcs, htake⟩
  · have hnil : news = [] := List.eq_nil_of_length_eq_zero (by simpa using hxs)
    subst hnil
    refine ⟨_, _, run_append_owned_none w g t ty e i size ht hi _ 0 [] hn, ?_, Fr.refl _ _, fun q e => ?_⟩
    · exact ⟨by simp, .inr ⟨g, 0, #[], rfl, Nat.zero_le _, hg, Nat.le_refl _, Nat.zero_le _, by simp, by simp⟩⟩
    · simp [Value.ownBlock] at e; exact .inl e.symm
  · obtain ⟨v', w', hr, h2, h3, _, h5⟩ := run_append_own_at (P := P) w g t ty e i z size bytes ht hi hz hsize hby hzs hsz (.slice (some ⟨g, 0, none⟩) 0 0) 0 [] hn ⟨gx, 0, none⟩ m cap news hxs (hx.cells (g := gx) rfl) h1 (by simpa using h63) (by simpa using hbytes) (Nat.le_of_lt hg.lt)
    simp only [Nat.zero_add, List.nil_append] at h2
    refine ⟨v', w', hr, ownsRow_base0 h2, ⟨h3.os, h3.tape, h3.output, h3.size, fun k hk hn => h3.block k hk (fun e => hn (by simp [Value.ownBlock] at e; simp [e]))⟩, fun q hq => ?_⟩
    rcases h5 with h5 | h5
    · rw [hq] at h5; simp [Value.ownBlock] at h5; exact .inl h5
    · rw [hq] at h5; simp at h5; exact .inr (by omega)
theorem wp_app_mt {P : Program} {w : World} {o : Oper} {a : Act} {K : Act → World → Prop} {Q : Exit → Act → World → Prop} (s x : Operand) (t : TypeId)
    (ho : o.op = .call { callee := .builtin .append, args := #[s, x], argTypes := #[t, t] })
    (e : TypeId) (z : Value) (size bytes : Nat) (ht : P.underlying t = some (.slice e)) (hinfo : (P.info? e).map (fun i => (i.zero, i.size, i.bytes)) = some (some z, size, bytes)) (hzs : z.cells.size = size) (hsz : 0 < size)
    (g : Nat) (hs : a.eval s = .slice (some ⟨g, 0, none⟩) 0 0) (hg : Blk w g e []) (v : Value) (m : Nat) (news : List Value) (hv : a.eval x = v) (hx : w.ownsRow 0 e size v m news) (h1 : ∀ u ∈ news, u.oneCell' = true) (h63 : m ≤ maxLen) (hbytes : m * bytes ≤ 140737488355328)
    (h : ∀ v' w', w'.ownsRow 0 e size v' m news → Fr [g] w w' → (∀ q, v'.ownBlock = some q → q = g ∨ w.heap.size ≤ q) → K (a.put o.dst v') w') : o.wp P a w K Q := by
  obtain ⟨i0, hi, hz0, hz1, hz2⟩ := info_parts hinfo
  obtain ⟨v', w', hr, h2, h3, h4⟩ := run_app_mt (P := P) w t o.type e i0 z size bytes ht hi hz0 hz1 hz2 hzs hsz g hg v m news hx h1 h63 hbytes
  unfold Oper.wp execOp
  simp only [ho, resolve, invoke, builtin, Sem.run_bind, Sem.run_pure, Result.andThen_ok, List.map_toArray, List.map_cons, List.map_nil, hs, hv, hr]
  exact h v' w' h2 h3 h4
theorem step_app_mt {P : Program} {w : World} {ops : Array Oper} {o : Oper} {a : Act} {K : Act → World → Prop} {Q : Exit → Act → World → Prop} {E : Prop} (hgd : o.guard = none) (s x : Operand) (t : TypeId)
    (ho : o.op = .call { callee := .builtin .append, args := #[s, x], argTypes := #[t, t] })
    (e : TypeId) (z : Value) (size bytes : Nat) (ht : P.underlying t = some (.slice e)) (hinfo : (P.info? e).map (fun i => (i.zero, i.size, i.bytes)) = some (some z, size, bytes)) (hzs : z.cells.size = size) (hsz : 0 < size)
    (g : Nat) (hs : a.eval s = .slice (some ⟨g, 0, none⟩) 0 0) (hg : Blk w g e []) (v : Value) (m : Nat) (news : List Value) (hv : a.eval x = v) (hx : w.ownsRow 0 e size v m news) (h1 : ∀ u ∈ news, u.oneCell' = true) (h63 : m ≤ maxLen) (hbytes : m * bytes ≤ 140737488355328)
    (h : ∀ v' w', w'.ownsRow 0 e size v' m news → Fr [g] w w' → (∀ q, v'.ownBlock = some q → q = g ∨ w.heap.size ≤ q) → K (a.put o.dst v') w') :
    if Region.wanted o (yielded ops a.tmps) = true then Oper.wp P o a w K Q else E := by
  rw [if_pos (by simp [Region.wanted, hgd])]
  exact wp_app_mt s x t ho e z size bytes ht hinfo hzs hsz g hs hg v m news hv hx h1 h63 hbytes h
end Go.Proofs.Ytciacnnelpijeaa

namespace Go.Proofs.Ytciacnnelpijeaa
open Go.RowKit
set_option maxRecDepth 10000
set_option maxHeartbeats 800000

def itemZ : Value := .agg #[.int .u64 0, .int .i64 0]
theorem Try.infoItem : (Try.prog.info? 83).map (fun i => (i.zero, i.size, i.bytes)) = some (some itemZ, 2, 16) := by kernel_rfl

section
variable {w w' : World} {pr : Nat} {vL vF : Value} {M : Md}

theorem RTab.addL (h : RTab w pr vL vF M) {w4 : World} {g' cap' id i : Nat} (box : Obj)
    (hown : w4.ownsRow 0 83 2 (.slice (some ⟨g', 0, none⟩) (M.L.length + 1) cap') (M.L.length + 1) (itemCells M.L ++ [.int .u64 id, .int .i64 i]))
    (hgrow : (w.alloc box).grownBy w4 vL.ownBlock) (hg : vL.ownBlock = some g' ∨ (w.alloc box).heap.size ≤ g') :
    RTab (w4.setCell ⟨pr, 2, none⟩ (.slice (some ⟨g', 0, none⟩) (M.L.length + 1) cap')) pr (.slice (some ⟨g', 0, none⟩) (M.L.length + 1) cap') vF { M with L := M.L ++ [(id, i)] } ∧
      Fr (rTB pr vL vF) w (w4.setCell ⟨pr, 2, none⟩ (.slice (some ⟨g', 0, none⟩) (M.L.length + 1) cap')) ∧ ∀ q ∈ rTB pr (.slice (some ⟨g', 0, none⟩) (M.L.length + 1) cap') vF, q ∈ rTB pr vL vF ∨ w.heap.size ≤ q := by
  have hlp := h.hd.lt
  simp only [World.size_alloc] at hg
  have hF4 : Fr vL.ownBlock.toList w w4 := ((Fr.refl _ _).alloc _).grown hgrow (fun q e => .inl (by simp [e]))
  have hd4 : Blk w4 pr 75 [.bool true, .int .i64 M.slots, vL, vF, .int .i64 M.given] := hF4.blk h.hd (fun hm => h.apL (by simpa using hm))
  have hg' : g' ≠ pr := by
    rintro rfl
    rcases hg with e | e
    · exact h.apL e
    · omega
  refine ⟨⟨hd4.set 2 _, ?_, ?_, ?_, h.apF, ?_⟩, ?_, ?_⟩
  · simp only [itemCells_snoc, List.length_append, List.length_cons, List.length_nil, Nat.zero_add]
    exact ownsRow_other hown _ _ (by simpa [Value.ownBlock] using hg')
  · exact ownsRow_other (ownsRow_same h.free (fun q hq => hF4.keep q (h.free.lt q hq).2 (fun hm => h.apLF q (by simpa using hm) hq))) _ _ h.apF
  · simpa [Value.ownBlock] using hg'
  · intro q hq e
    simp only [Value.ownBlock, Option.some.injEq] at hq
    subst hq
    rcases hg with hh | hh
    · exact h.apLF _ hh e
    · have := (h.free.lt _ e).2; omega
  · refine (hF4.mono (fun q hq => .inl ?_)).setCell _ _ (.inl (by simp [rTB]))
    simp only [rTB, List.mem_cons, List.mem_append]; exact .inr (.inl hq)
  · intro q hq
    have e1 : (Value.slice (some ⟨g', 0, none⟩) (M.L.length + 1) cap').ownBlock = some g' := rfl
    simp only [rTB, e1, Option.toList_some, List.cons_append, List.nil_append, List.mem_cons] at hq ⊢
    rcases hq with rfl | rfl | hq
    · exact .inl (.inl rfl)
    · rcases hg with e | e
      · exact .inl (.inr (List.mem_append.2 (.inl (by rw [e]; simp))))
      · exact .inr (by omega)
    · exact .inl (.inr (List.mem_append.2 (.inr hq)))

theorem Blk.new' (w : World) {n : Nat} (l : List Value) (t : TypeId) (h : w.heap.size = n) : Blk (w.alloc (.cells l.toArray t)) n t l := by
  subst h; exact Blk.new w l t
theorem RTab.setGiven (h : RTab w pr vL vF M) (k : Nat) {x : Int} (hx : x = (k : Int)) : RTab (w.setCell ⟨pr, 4, none⟩ (.int .i64 x)) pr vL vF { M with given := k } := by
  subst hx
  exact ⟨h.hd.set 4 _, ownsRow_other h.items _ _ h.apL, ownsRow_other h.free _ _ h.apF, h.apL, h.apF, h.apLF⟩

theorem RTab.setF (h : RTab w pr vL vF M) {v' : Value} {F : List Nat} (hv : w.ownsRow 0 3 1 v' F.length (encN F.reverse)) (hp : v'.ownBlock ≠ some pr) (hL : ∀ q, vL.ownBlock = some q → v'.ownBlock ≠ some q) :
    RTab (w.setCell ⟨pr, 3, none⟩ v') pr vL v' { M with free := F } :=
  ⟨h.hd.set 3 _, ownsRow_other h.items _ _ h.apL, ownsRow_other hv _ _ hp, h.apL, hp, hL⟩
theorem ownsRow_prefix {w : World} {base : Nat} {e : TypeId} {size : Nat} {g n m cap : Nat} {xs ys : List Value} (h : w.ownsRow base e size (.slice (some ⟨g, 0, none⟩) (n + m) cap) (n + m) (xs ++ ys)) (hx : xs.length = n * size) :
    w.ownsRow base e size (.slice (some ⟨g, 0, none⟩) n cap) n xs := by
  obtain ⟨h1, h2⟩ := h
  rcases h2 with ⟨h2, _⟩ | ⟨g', cap', cur, e1, hb, hh, hn, hm, hsz, hxs⟩
  · cases h2
  · simp only [Value.slice.injEq, Option.some.injEq, Addr.mk.injEq, and_true, true_and] at e1
    obtain ⟨rfl, rfl⟩ := e1
    refine ⟨hx, .inr ⟨g, cap, cur, rfl, hb, hh, by omega, hm, hsz, ?_⟩⟩
    have := congrArg (List.take (n * size)) hxs
    have e2 : (xs ++ ys).take (n * size) = xs := by rw [← hx, List.take_left']; rfl
    rw [List.take_take, Nat.min_eq_left (Nat.mul_le_mul_right _ (by omega)), e2] at this
    exact this

theorem rput_w (h : RTab w pr vL vF M) (hok : M.Ok) (id : Nat) :
    Calls Try.prog 28 #[ptr pr, .int .u64 id] w fun e w' => e = .returned (.tuple #[.int .i64 (M.put id).idx, .bool (M.put id).added, .int .i64 (M.put id).err]) ∧
      ∃ vL' vF', RTab w' pr vL' vF' (M.put id).M ∧ Fr (rTB pr vL vF) w w' ∧ ∀ q ∈ rTB pr vL' vF', q ∈ rTB pr vL vF ∨ w.heap.size ≤ q := by
  have hcnt := hok.cnt
  have hb := hok.ar.hb
  have hs := hok.ar.hs
  simp only [Md.ar] at hb hs
  have HV := Lib.hid (rvalid_w h)
  have HF := Lib.hid (rfind_w h (by omega) id)
  obtain ⟨a2, cap2, rfl⟩ := h.slL
  obtain ⟨a3, cap3, rfl⟩ := h.slF
  have Hids := Lib.hid hok.ids
  clear hok
  have HR := Lib.hid h; clear h
  generalize hP : M.put id = P at *
  have HP := Lib.hid hP; clear hP
  go_enter Try.func28, Try.ntmps28
  go_wp2_with fail
  refine HV.out.mono ?_
  rintro _ w ⟨rfl, rfl⟩
  go_wp2_with fail
  refine HF.out.mono ?_
  rintro _ w ⟨rfl, hr⟩
  clear HF HV
  have c1 := HR.out.hd.cell 1
  have c2 := HR.out.hd.cell 2
  have c3 := HR.out.hd.cell 3
  have c4 := HR.out.hd.cell 4
  simp only [List.getElem?_cons_zero, List.getElem?_cons_succ] at c1 c2 c3 c4
  rcases hr with ⟨rfl, hn⟩ | ⟨k, hk, rfl, he⟩
  · by_cases hfull : M.L.length = M.slots
    · have hp : P = ⟨0, false, 4, M⟩ := by
        rw [← HP.out]; unfold Md.put; rw [hn]
        have : M.next = none := by
          unfold Md.next
          have : M.free = [] := List.eq_nil_of_length_eq_zero (by omega)
          rw [this]; simp; simp [this] at hcnt; omega
        rw [this]
      have Hp := Lib.hid hp; clear hp
      have t1 : ((M.L.length : Int) == (M.slots : Int)) = true := by simp; omega
      have t2 : decide ((-1 : Int) ≥ 0) = false := by decide
      clear hn hfull
      go_wp2
      go_quiet (fail)
      go_wp2
      go_ret3
      rw [Hp.out]
      exact ⟨rfl, _, _, HR.out.drewN _, (Fr.refl _ _).drewN _, fun q hq => .inl hq⟩
    · have t1 : ((M.L.length : Int) == (M.slots : Int)) = false := by simp; omega
      have t2 : decide ((-1 : Int) ≥ 0) = false := by decide
      cases hfr : M.free with
      | nil =>
        rw [hfr] at hcnt
        simp only [List.length_nil, Nat.add_zero] at hcnt
        have hp : P = ⟨M.given, true, 0, M.add id M.given⟩ := by
          rw [← HP.out]; unfold Md.put; rw [hn]
          have : M.next = some M.given := by unfold Md.next; rw [hfr]; simp; omega
          rw [this]
        have hadd : M.add id M.given = { M with given := M.given + 1, L := M.L ++ [(id, M.given)] } := by
          obtain ⟨s, L, f, g⟩ := M
          simp only at hfr; subst hfr; rfl
        rw [hadd] at hp
        have Hp := Lib.hid hp; clear hp hadd
        have hfl : M.free.length = 0 := by rw [hfr]; rfl
        rw [hfl] at c3
        have hgl : M.given ≤ 65536 := by omega
        have hLl : M.L.length ≤ 65536 := by omega
        clear hn hfull hfr hcnt hfl
        have f4 := HR.out.hd.frozen 4
        have f2 := HR.out.hd.frozen 2
        go_wp2
        go_quiet (fail)
        have HR1 := Lib.hid (fun (x : Int) (hx : x = ((M.given + 1 : Nat) : Int)) => (HR.out.drewN nq).setGiven (M.given + 1) hx)
        go_wp2_with (at_builtin; refine wpList_appK rfl _ _ 73 rfl 83 itemZ 2 16 Try.underlying73 Try.infoItem rfl (by decide) (.slice a2 M.L.length cap2) M.L.length _ rfl ((HR1.out _ (by omega)).items.alloc _) w.heap.size 83 [.int .u64 id, .int .i64 M.given] rfl (Blk.new' _ _ _ (by simp)) rfl (by simp [Value.oneCell']) (by omega) (by decide) ?_; intro g' cap' w4 hown4 hgrow4 hg4; obtain ⟨hR4, hF4, hq4⟩ := RTab.addL (HR1.out _ (by omega)) _ hown4 hgrow4 hg4; have hk4 := (((Fr.refl _ _).alloc _).grown (S := (Value.slice a2 M.L.length cap2).ownBlock.toList) hgrow4 (fun q e => .inl (by simp [e]))).blk (HR1.out _ (by omega)).hd (fun hm => HR.out.apL (by simpa using hm)); have z4 := hk4.frozen 2; have y4 := hk4.cell 2; simp only [List.getElem?_cons_zero, List.getElem?_cons_succ] at y4)
        go_ret3
        rw [Hp.out]
        refine ⟨rfl, _, _, hR4, ((Fr.refl _ _).drewN nq |>.setCell _ _ (.inl (by simp [rTB]))).trans' hF4, fun q hq => (hq4 q hq).imp (fun h => h) (fun h => by simpa using h)⟩
      | cons x r =>
        have hfl : M.free.length = r.length + 1 := by rw [hfr]; rfl
        have hp : P = ⟨x, true, 0, { M with free := r, L := M.L ++ [(id, x)] }⟩ := by
          rw [← HP.out]; unfold Md.put; rw [hn]
          have : M.next = some x := by unfold Md.next; rw [hfr]
          rw [this]
          obtain ⟨s, L, f, g⟩ := M
          simp only at hfr; subst hfr; rfl
        have Hp := Lib.hid hp; clear hp hn
        have hrow := HR.out.free
        obtain ⟨g3, cap3', e, hcp3, hg3, hc3, _⟩ := ownsRow_at hrow (show M.free.length - 1 < M.free.length by omega)
        simp only [Value.slice.injEq, true_and] at e
        obtain ⟨rfl, rfl⟩ := e
        have hx : (encN M.free.reverse)[M.free.length - 1]? = some (.int .i64 (x : Nat)) := by rw [hfr]; simp [encN]
        rw [hx] at hc3
        have hpre : w.ownsRow 0 3 1 (.slice (some ⟨g3, 0, none⟩) r.length cap3) r.length (encN r.reverse) := by
          rw [hfl, hfr] at hrow
          refine ownsRow_prefix (m := 1) (ys := [.int .i64 x]) ?_ (by simp [encN])
          simpa [encN] using hrow
        have Hpre := Lib.hid hpre; clear hpre
        rw [hfl] at c3 hc3
        simp only [Nat.add_sub_cancel] at hc3
        have hrl : r.length ≤ 65536 := by omega
        have hLl : M.L.length ≤ 65536 := by omega
        have hcp3' : r.length + 1 ≤ cap3 := by omega
        clear hx hrow hfr hfl hcnt hcp3
        have hw1 : IntKind.i64.wrap ((r.length : Int) + 1 - 1) = r.length := by rw [show (r.length : Int) + 1 - 1 = r.length by omega]; exact IntWalk.i64_in _ (by omega)
        have hw0 : (0 : Int) ≤ (r.length : Int) + 1 - 1 := by omega
        have hw2 : (r.length : Int) < (r.length : Int) + 1 := by omega
        have hr0 : (0 : Int) ≤ (r.length : Int) := by omega
        have hw3 : IntKind.i64.wrap (r.length : Int) = r.length := IntWalk.i64_in _ (by omega)
        have hw4 : (r.length : Int) ≤ (cap3 : Int) := by omega
        go_wp2
        go_quiet (fail)
        have HR0 := Lib.hid (HR.out.drewN nq)
        have HF0 := Lib.hid ((Fr.refl [] w).drewN nq)
        have hc3' : (w.drewN nq).cell? ⟨g3, r.length, none⟩ = some (.int .i64 x) := hc3
        have c3' : (w.drewN nq).cell? ⟨pr, 3, none⟩ = some (.slice (some ⟨g3, 0, none⟩) (r.length + 1) cap3) := c3
        have c4' : (w.drewN nq).cell? ⟨pr, 4, none⟩ = some (.int .i64 M.given) := c4
        clear c1 c2 c3 c4 hc3
        generalize w.drewN nq = w0 at *
        go_wp2
        go_quiet (fail)
        have HR1 := Lib.hid (HR0.out.drewN nq)
        have HF1 := Lib.hid (HF0.out.drewN nq)
        have d3 : (w0.drewN nq).cell? ⟨pr, 3, none⟩ = some (.slice (some ⟨g3, 0, none⟩) (r.length + 1) cap3) := c3'
        clear c3' c4' hc3' HR0 HF0
        generalize w0.drewN nq = w1 at *
        have f3 := HR1.out.hd.frozen 3
        go_wp2
        have e3 : (w1.alloc (.cells #[] 3)).cell? ⟨pr, 3, none⟩ = some (.slice (some ⟨g3, 0, none⟩) (r.length + 1) cap3) := ((Fr.refl [] w1).alloc _).cell d3 (by simp)
        go_region_law (first | (refine step_app_mt (by rfl) _ _ _ (by rfl) 3 (.int .i64 0) 1 8 Try.underlying38 Try.info3 rfl (by decide) w1.heap.size (by rfl) ((Blk.new w1 [] 3).drew) (.slice (some ⟨g3, 0, none⟩) r.length cap3) r.length (encN r.reverse) (by rfl) (ownsRow_same Hpre.out (fun q hq => ((HF1.out.alloc _).drew).keep q (Hpre.out.lt q hq).2 (by simp))) (by simp [encN, Value.oneCell']) (by unfold maxLen; omega) (by omega) ?_; intro v5 w5 hown5 hF5 hq5; obtain ⟨a5, cp5, rfl⟩ := ownsRow_slice hown5; have hd5 := hF5.blk ((HR1.out.hd.alloc (.cells #[] 3)).drew) (by have := HR1.out.hd.lt; simp; omega); have y5 := hd5.cell 3; have z5 := hd5.frozen 3; simp only [List.getElem?_cons_zero, List.getElem?_cons_succ] at y5))
        all_goals
          have hs5 := hF5.size
          have hq5' : ∀ q, (Value.slice a5 r.length cp5).ownBlock = some q → w1.heap.size ≤ q := fun q hq => by have := hq5 q hq; simp at this; omega
          have hF5' : Fr [w1.heap.size] w1 w5 := (((Fr.refl _ w1).alloc _).drew).trans' hF5
          have hR5 := HR1.out.fr hF5' (fun q hq hm => by have := HR1.out.lt q hq; simp at hm; omega)
          have HR5 := Lib.hid (hR5.setF (F := r) hown5 (fun e => by have := hq5' _ e; have := HR1.out.hd.lt; omega) (fun q hq e => by have := hq5' _ e; have := (HR1.out.items.lt q hq).2; omega))
          have HF5 := Lib.hid ((hF5'.mono (S' := rTB pr (.slice a2 M.L.length cap2) (.slice (some ⟨g3, 0, none⟩) M.free.length cap3)) (fun q hq => .inr (by simp at hq; omega))).setCell ⟨pr, 3, none⟩ (.slice a5 r.length cp5) (.inl (by simp [rTB])))
          have Hq5 := Lib.hid hq5'
          clear hown5 hF5 hq5 hF5' hR5 hd5 y5 z5 hq5' d3 e3 f3
          simp only [World.size_alloc, World.size_drew] at hs5
          generalize hw6 : w5.setCell ⟨pr, 3, none⟩ (.slice a5 r.length cp5) = w6 at *
          have hs6 : w1.heap.size ≤ w6.heap.size := HF5.out.size
          clear hw6
          have c2 := HR5.out.hd.cell 2
          have f2 := HR5.out.hd.frozen 2
          simp only [List.getElem?_cons_zero, List.getElem?_cons_succ] at c2
          go_wp2_with (at_builtin; refine wpList_appK rfl _ _ 73 rfl 83 itemZ 2 16 Try.underlying73 Try.infoItem rfl (by decide) (.slice a2 M.L.length cap2) M.L.length _ rfl (HR5.out.items.alloc _) w6.heap.size 83 [.int .u64 id, .int .i64 x] rfl (Blk.new' _ _ _ (by simp)) rfl (by simp [Value.oneCell']) (by omega) (by decide) ?_; intro g' cap' w4 hown4 hgrow4 hg4; obtain ⟨hR4, hF4, hq4⟩ := RTab.addL HR5.out _ hown4 hgrow4 hg4; have hk4 := (((Fr.refl _ _).alloc _).grown (S := (Value.slice a2 M.L.length cap2).ownBlock.toList) hgrow4 (fun q e => .inl (by simp [e]))).blk HR5.out.hd (fun hm => HR5.out.apL (by simpa using hm)); have z4 := hk4.frozen 2; have y4 := hk4.cell 2; simp only [List.getElem?_cons_zero, List.getElem?_cons_succ] at y4)
          go_ret3
          rw [Hp.out]
          have hF1s := HF1.out.size
          refine ⟨rfl, _, _, hR4, ((HF1.out.mono (by simp)).trans' HF5.out).trans hF4 (fun q hq => ?_), fun q hq => ?_⟩
          · simp only [rTB, List.mem_cons, List.mem_append, Option.mem_toList] at hq ⊢
            rcases hq with hq | hq | hq
            · exact .inl (.inl hq)
            · exact .inl (.inr (.inl hq))
            · have := Hq5.out q hq; exact .inr (by omega)
          · rcases hq4 q hq with hq | hq
            · simp only [rTB, List.mem_cons, List.mem_append, Option.mem_toList] at hq ⊢
              rcases hq with hq | hq | hq
              · exact .inl (.inl hq)
              · exact .inl (.inr (.inl hq))
              · have := Hq5.out q hq; exact .inr (by omega)
            · exact .inr (by omega)
  · have hf := Md.mem_find Hids.out (show (id, M.L[k].2) ∈ M.L by rw [← he]; exact List.getElem_mem hk)
    have hp : P = ⟨M.L[k].2, false, 0, M⟩ := by rw [← HP.out]; unfold Md.put; rw [hf]
    have Hp := Lib.hid hp; clear hp hf he
    obtain ⟨b, cap, e, hb, q0, q1⟩ := item_at HR.out.items hk
    simp only [Value.slice.injEq, true_and] at e
    obtain ⟨rfl, rfl⟩ := e
    have hj1 : (k : Int) < M.L.length := by omega
    have hj0 : (0 : Int) ≤ k := by omega
    have t2 : decide ((k : Int) ≥ 0) = true := decide_eq_true hj0
    clear q0
    generalize M.L[k].2 = x at *
    go_wp2
    go_ret3
    rw [Hp.out]
    exact ⟨rfl, _, _, HR.out, Fr.refl _ _, fun q hq => .inl hq⟩
end
end Go.Proofs.Ytciacnnelpijeaa
