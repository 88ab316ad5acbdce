/- The document's store: From, New, Insert. -/
import Derived.Test.YtbegdgnhpklceaaGreatB16
import Derived.Deep.RegionHeld3
import Derived.Deep.RegionLaw
set_option linter.unusedSimpArgs false
set_option linter.unusedVariables false
/- The document's store: Incident, List, IDs, Verts, Check. -/
namespace Go.Proofs.YtbegdgnhpklceaaGreat
open Go.RowKit
set_option maxRecDepth 10000
set_option maxHeartbeats 1600000

/-- The first i ends of the edges. -/
def EndsI (L : List Lv) (i y : Nat) : Prop := ∃ j, j < i ∧ ∃ hj : j / 2 < L.length, y = if j % 2 = 1 then (L[j / 2]).v else (L[j / 2]).u
theorem EndsI.zero {L : List Lv} {y : Nat} : ¬ EndsI L 0 y := fun ⟨_, h, _⟩ => absurd h (Nat.not_lt_zero _)
theorem EndsI.succ {L : List Lv} {i y : Nat} (hi : i / 2 < L.length) : EndsI L (i + 1) y ↔ EndsI L i y ∨ y = if i % 2 = 1 then (L[i / 2]).v else (L[i / 2]).u := by
  constructor
  · rintro ⟨j, hj, h1, h2⟩
    by_cases e : j = i
    · subst e; exact .inr h2
    · exact .inl ⟨j, by omega, h1, h2⟩
  · rintro (⟨j, hj, h1, h2⟩ | h)
    · exact ⟨j, by omega, h1, h2⟩
    · exact ⟨i, by omega, hi, h⟩
theorem EndsI.all {L : List Lv} {y : Nat} : EndsI L (2 * L.length) y ↔ ∃ e ∈ L, e.at y = true := by
  constructor
  · rintro ⟨j, hj, h1, h2⟩
    refine ⟨L[j / 2], List.getElem_mem h1, ?_⟩
    rw [h2]
    unfold Lv.at
    split <;> simp
  · rintro ⟨e, he, hat⟩
    obtain ⟨k, hk, rfl⟩ := List.getElem_of_mem he
    simp only [Lv.at, Bool.or_eq_true, beq_iff_eq] at hat
    rcases hat with h | h
    · exact ⟨2 * k, by omega, by omega, by rw [if_neg (by omega)]; simp only [show 2 * k / 2 = k by omega]; exact h.symm⟩
    · exact ⟨2 * k + 1, by omega, by omega, by rw [if_pos (by omega)]; simp only [show (2 * k + 1) / 2 = k by omega]; exact h.symm⟩
theorem ids_uniq {s : Sm} (h : s.Ok) {r : List Nat} (hs : r.Pairwise (· < ·)) (hm : ∀ y, y ∈ r ↔ ∃ e ∈ s.L, e.at y = true) : r = s.ids := by
  have hp : (s.M.L.map (·.1)).Perm r := by
    refine (List.perm_ext_iff_of_nodup h.md.ids (hs.imp (fun h => by omega))).2 fun id => ?_
    have h1 : id ∈ s.M.L.map (·.1) ↔ (s.M.find id).isSome = true := by
      rw [List.mem_map, Option.isSome_iff_exists]
      constructor
      · rintro ⟨⟨a, i⟩, hx, rfl⟩; exact ⟨i, (Md.find_iff h.md).2 hx⟩
      · rintro ⟨i, hi⟩; exact ⟨(id, i), Md.find_mem hi, rfl⟩
    rw [h1, h.vert, hm]
    constructor
    · intro hne
      obtain ⟨x, hx⟩ := List.exists_mem_of_ne_nil _ hne
      obtain ⟨e, he, hat, _⟩ := mem_incL.1 hx
      exact ⟨e, he, hat⟩
    · rintro ⟨e, he, hat⟩
      exact List.ne_nil_of_mem (mem_incL.2 ⟨e, he, hat, rfl⟩)
  unfold Sm.ids
  rw [sortN_eq hp]
  exact ((sortN_perm _).eq_of_pairwise (le := fun x y => decide (x ≤ y)) (fun a b _ _ h1 h2 => by simp at *; omega) ((sortN_le _).imp (fun h => by simpa using h)) (hs.imp (fun h => by simp; omega))).symm
theorem vert_any {s : Sm} (h : s.Ok) (id : Nat) : (s.L.any fun e => e.at id) = (s.M.find id).isSome := by
  rw [Bool.eq_iff_iff, h.vert, List.any_eq_true]
  constructor
  · rintro ⟨e, he, hat⟩
    exact List.ne_nil_of_mem (mem_incL.2 ⟨e, he, hat, rfl⟩)
  · intro hne
    obtain ⟨x, hx⟩ := List.exists_mem_of_ne_nil _ hne
    obtain ⟨e, he, hat, _⟩ := mem_incL.1 hx
    exact ⟨e, he, hat⟩
theorem md_len_le {s : Sm} (h : s.Ok) : s.M.L.length ≤ 4096 := by
  have hmn := h.md.cnt
  have hmb := h.md.ar.hb
  have hms := h.ms
  have hV4 := h.leV
  simp only [Md.ar] at hmb
  omega

section
variable {w w' : World} {pr pa pt n : Nat} {vL vU vC vR vT vF : Value} {s : Sm} {c : List Nat} {cl : Nat → Nat} {S K : List Nat}
theorem rs_list (h : RSB w pr pa pt vL vU vC vR vT vF s c n cl) : Calls Tryz.prog 34 #[ptr pr] w fun e w' => ∃ v, e = .returned v ∧ RowV w' v s.L ∧ (∀ q, v.ownBlock = some q → w.heap.size ≤ q) ∧ Fr [] w w' := by
  have hn := sm_len_le h.ok
  obtain ⟨aL, cL, rfl⟩ := h.row.slice
  have HV := Lib.hid (rs_valid h)
  have c3 := h.hd.cell 3
  simp only [List.getElem?_cons_zero, List.getElem?_cons_succ] at c3
  have HB := Lib.hid h; clear h
  go_enter Tryz.func34, Tryz.ntmps34
  go_wp2_with fail
  refine HV.out.mono ?_
  rintro _ w ⟨rfl, rfl⟩
  have c3' := ((Fr.refl [] w).alloc (.cells #[] 36)).cell c3 (by simp)
  go_wp2_with (first | (at_builtin; refine wpList_app_mt rfl _ _ 60 rfl 36 lvZero 7 56 Tryz.underlying60 Tryz.info36 rfl (by decide) w.heap.size rfl (Blk.new w [] 36) (.slice aL s.L.length cL) s.L.length (rowV s.L) rfl (HB.out.row.fr0 ((Fr.refl [] w).alloc _)) (rowV_one _) (by unfold maxLen; omega) (by omega) ?_; intro v8 w8 hown8 hF8 hq8) | fail)
  go_ret
  refine ⟨v8, rfl, hown8, fun q hq => ?_, ((Fr.refl [] w).alloc _).trans hF8 (fun q hq => .inr (by simp at hq; omega))⟩
  rcases hq8 q hq with e | e
  · omega
  · simp only [World.size_alloc] at e; omega
theorem rs_incident (h : RSB w pr pa pt vL vU vC vR vT vF s c n cl) (id : Nat) : Calls Tryz.prog 27 #[ptr pr, .int .u64 id] w fun e w' => ∃ v, e = .returned v ∧ RowI w' v (incL s.L id) ∧ (∀ q, v.ownBlock = some q → w.heap.size ≤ q) ∧ Fr [] w w' := by
  have hn := sm_len_le h.ok
  obtain ⟨aL, cL, rfl⟩ := h.row.slice
  have HB := Lib.hid h; clear h
  go_enter Tryz.func27, Tryz.ntmps27
  go_wp2_with fail
  go_loopw [5, 6] (fun y z wr => ∃ i : Nat, i ≤ s.L.length ∧ z = .int .i64 i ∧ okS y = true ∧ Hid (RowI wr y (incL (s.L.take i) id) ∧ (∀ q, y.ownBlock = some q → w.heap.size ≤ q) ∧ Fr [] w wr)) (fun _ z _ => s.L.length - (intOf z).toNat)
  case atStart => exact ⟨0, Nat.zero_le _, rfl, rfl, Lib.hid ⟨RowI.nil _, fun q e => (by cases e), Fr.refl _ _⟩⟩
  case round =>
    obtain ⟨i, hi, rfl, _, HS⟩ := hrel
    rename World => wr
    rename Value => y
    obtain ⟨ay, cy, rfl⟩ := HS.out.1.slice
    have HBr := Lib.hid (HB.out.fr0 HS.out.2.2)
    have c3 := HBr.out.hd.cell 3
    simp only [List.getElem?_cons_zero, List.getElem?_cons_succ] at c3
    have hinl : (incL (s.L.take i) id).length ≤ 16384 := by have := incL_len (s.L.take i) id; simp at this; omega
    by_cases hil : i < s.L.length
    · have hii : (i : Int) < s.L.length := by omega
      have hdd : decide ((i : Int) < s.L.length) = true := decide_eq_true hii
      obtain ⟨b, cv', ev, _, _, _, hat⟩ := HBr.out.row.at hil
      simp only [Value.slice.injEq, true_and] at ev
      obtain ⟨rfl, rfl⟩ := ev
      have hsu : incL (s.L.take (i + 1)) id = incL (s.L.take i) id ++ if (s.L[i]).at id then [(s.L[i]).slot] else [] := by rw [List.take_succ_eq_append_getElem hil, incL_snoc]
      obtain ⟨e, he⟩ : ∃ e, e = s.L[i] := ⟨_, rfl⟩
      rw [← he] at hat hsu
      clear he
      have x0 := hat.1
      have x2 := hat.2.2.1
      have x3 := hat.2.2.2.1
      clear hat
      cases hea : e.at id with
      | false =>
        rw [hea] at hsu
        simp only [Lv.at, Bool.or_eq_false_iff, beq_eq_false_iff_ne] at hea
        have d1 : ((e.u : Int) == (id : Int)) = false := by simp; omega
        have d2 : ((e.v : Int) == (id : Int)) = false := by simp; omega
        have HSU := Lib.hid hsu
        clear hea hsu x0
        go_wp2_with fail
        refine (rs_valid HBr.out).mono ?_
        rintro _ wr ⟨rfl, rfl⟩
        go_wp2_with fail
        refine ⟨⟨i + 1, by omega, by go_num, rfl, Lib.hid ⟨?_, HS.out.2⟩⟩, by simp [intOf]; omega⟩
        rw [HSU.out, if_neg (by simp), List.append_nil]; exact HS.out.1
      | true =>
        rw [hea, if_pos rfl] at hsu
        have HSU := Lib.hid hsu
        have hcase : (e.u : Int) = id ∨ (¬ (e.u : Int) = id ∧ (e.v : Int) = id) := by
          simp only [Lv.at, Bool.or_eq_true, beq_iff_eq] at hea
          omega
        have HRW := Lib.hid (HS.out.1.fr0 ((Fr.refl [] wr).alloc (.cells #[.int .i64 e.slot] 3)))
        have HZ := Lib.hid (show Blk (wr.alloc (.cells #[.int .i64 e.slot] 3)) wr.heap.size 3 [.int .i64 e.slot] from Blk.new wr [.int .i64 e.slot] 3)
        clear hea hsu
        have key : ∀ g8 cap8 w8, w8.ownsRow 0 3 1 (.slice (some ⟨g8, 0, none⟩) ((incL (s.L.take i) id).length + 1) cap8) ((incL (s.L.take i) id).length + 1) (encN (incL (s.L.take i) id) ++ [.int .i64 e.slot]) → (wr.alloc (.cells #[.int .i64 e.slot] 3)).grownBy w8 (Value.slice ay (incL (s.L.take i) id).length cy).ownBlock →
            ((Value.slice ay (incL (s.L.take i) id).length cy).ownBlock = some g8 ∨ (wr.alloc (.cells #[.int .i64 e.slot] 3)).heap.size ≤ g8) →
            RowI w8 (.slice (some ⟨g8, 0, none⟩) ((incL (s.L.take i) id).length + 1) cap8) (incL (s.L.take (i + 1)) id) ∧ (∀ q, (Value.slice (some ⟨g8, 0, none⟩) ((incL (s.L.take i) id).length + 1) cap8).ownBlock = some q → w.heap.size ≤ q) ∧ Fr [] w w8 := by
          intro g8 cap8 w8 hown8 hgrow8 hg8
          have hF8 := (Fr.refl (Value.slice ay (incL (s.L.take i) id).length cy).ownBlock.toList _).grown hgrow8 (fun q e => .inl (by simp [e]))
          have hs0 := HS.out.2.2.size
          refine ⟨?_, fun q hq => ?_, (HS.out.2.2.alloc _).trans hF8 (fun q hq => .inr (HS.out.2.1 q (by simpa using hq)))⟩
          · rw [HSU.out]
            unfold RowI
            rw [List.length_append]
            have : encN (incL (s.L.take i) id ++ [e.slot]) = encN (incL (s.L.take i) id) ++ [.int .i64 e.slot] := by simp [encN]
            rw [this]; exact hown8
          · simp only [Value.ownBlock, Option.some.injEq] at hq
            subst hq
            rcases hg8 with h | h
            · exact HS.out.2.1 _ h
            · simp only [World.size_alloc] at h; omega
        have KEY := Lib.hid key; clear key
        generalize incL (s.L.take i) id = li at *
        rcases hcase with h1 | ⟨h1, h2⟩
        · go_wp2_with fail
          refine (rs_valid HBr.out).mono ?_
          rintro _ wr ⟨rfl, rfl⟩
          go_wp2_with (first | (at_builtin; refine wpList_appK rfl _ _ 56 rfl 3 (.int .i64 0) 1 8 Tryz.underlying56 Tryz.info3 rfl (by decide) (.slice ay li.length cy) li.length _ rfl HRW.out wr.heap.size 3 [.int .i64 e.slot] rfl HZ.out rfl (by simp [Value.oneCell']) (by omega) (by decide) ?_; intro g8 cap8 w8 hown8 hgrow8 hg8) | fail)
          exact ⟨⟨i + 1, by omega, by go_num, rfl, Lib.hid (KEY.out _ _ _ hown8 hgrow8 hg8)⟩, by simp [intOf]; omega⟩
        · go_wp2_with fail
          refine (rs_valid HBr.out).mono ?_
          rintro _ wr ⟨rfl, rfl⟩
          go_wp2_with (first | (at_builtin; refine wpList_appK rfl _ _ 56 rfl 3 (.int .i64 0) 1 8 Tryz.underlying56 Tryz.info3 rfl (by decide) (.slice ay li.length cy) li.length _ rfl HRW.out wr.heap.size 3 [.int .i64 e.slot] rfl HZ.out rfl (by simp [Value.oneCell']) (by omega) (by decide) ?_; intro g8 cap8 w8 hown8 hgrow8 hg8) | fail)
          exact ⟨⟨i + 1, by omega, by go_num, rfl, Lib.hid (KEY.out _ _ _ hown8 hgrow8 hg8)⟩, by simp [intOf]; omega⟩
    · obtain rfl : i = s.L.length := by omega
      have hdd : decide ((s.L.length : Int) < s.L.length) = false := decide_eq_false (by omega)
      have hs2 := HS.out
      rw [show incL (s.L.take s.L.length) id = incL s.L id by rw [List.take_length]] at hs2
      have HS2 := Lib.hid hs2; clear hs2
      go_wp2_with fail
      refine (rs_valid HBr.out).mono ?_
      rintro _ wr ⟨rfl, rfl⟩
      go_wp2_with fail
      go_ret
      exact ⟨_, rfl, HS2.out⟩
theorem rs_ids (h : RSB w pr pa pt vL vU vC vR vT vF s c n cl) : Calls Tryz.prog 37 #[ptr pr] w fun e w' => ∃ v, e = .returned v ∧ RowU w' v s.ids ∧ (∀ q, v.ownBlock = some q → w.heap.size ≤ q) ∧ Fr [] w w' := by
  have hn := sm_len_le h.ok
  obtain ⟨aL, cL, rfl⟩ := h.row.slice
  have HV := Lib.hid (rs_valid h)
  have Hok := Lib.hid h.ok
  have HB := Lib.hid h; clear h
  go_enter Tryz.func37, Tryz.ntmps37
  go_wp2_with fail
  refine HV.out.mono ?_
  rintro _ w ⟨rfl, rfl⟩
  clear HV
  have h2l : IntKind.i64.wrap (2 * (s.L.length : Int)) = 2 * (s.L.length : Int) := by simp [IntKind.wrap, IntKind.bits, IntKind.signed]; omega
  go_wp2_with fail
  go_loopw [3, 4] (fun y z wr => ∃ i : Nat, i ≤ 2 * s.L.length ∧ z = .int .i64 i ∧ okS y = true ∧ Hid (∃ r, RowU wr y r ∧ r.Pairwise (· < ·) ∧ (∀ x, x ∈ r ↔ EndsI s.L i x) ∧ r.length ≤ i ∧ (∀ q, y.ownBlock = some q → w.heap.size ≤ q) ∧ Fr [] w wr)) (fun _ z _ => 2 * s.L.length - (intOf z).toNat)
  case atStart => exact ⟨0, Nat.zero_le _, rfl, rfl, Lib.hid ⟨[], ⟨rfl, .inl ⟨rfl, rfl⟩⟩, List.Pairwise.nil, fun x => by simp [EndsI.zero], Nat.le_refl _, fun q e => (by cases e), Fr.refl _ _⟩⟩
  case round =>
    obtain ⟨i, hi, rfl, _, HS0⟩ := hrel
    rename World => wr
    rename Value => y
    obtain ⟨r, h1, h2, h3, h4, h5, h6⟩ := HS0.out
    clear HS0
    obtain ⟨ay, cy, rfl⟩ := h1.slice
    have HBr := Lib.hid (HB.out.fr0 h6)
    have HWT := Lib.hid (fun x => with_w h1 x (by omega))
    have HS := Lib.hid (And.intro h2 (And.intro h3 (And.intro h4 (And.intro h5 (And.intro h6 h1))))); clear h2 h3 h4 h5 h6 h1
    have c3 := HBr.out.hd.cell 3
    simp only [List.getElem?_cons_zero, List.getElem?_cons_succ] at c3
    by_cases hil : i < 2 * s.L.length
    · have hk : i / 2 < s.L.length := by omega
      have hii : (i : Int) < 2 * (s.L.length : Int) := by omega
      obtain ⟨b, cv', ev, _, _, _, hat⟩ := HBr.out.row.at hk
      simp only [Value.slice.injEq, true_and] at ev
      obtain ⟨rfl, rfl⟩ := ev
      have hsu := fun x => EndsI.succ (y := x) hk
      obtain ⟨e, he⟩ : ∃ e, e = s.L[i / 2] := ⟨_, rfl⟩
      rw [← he] at hat
      simp only [← he] at hsu
      clear he
      have x2 := hat.2.2.1
      have x3 := hat.2.2.2.1
      clear hat
      have HSU := Lib.hid hsu; clear hsu
      obtain ⟨k, hkk⟩ : ∃ k, k = i / 2 := ⟨_, rfl⟩
      have hq1 : (i : Int).tdiv 2 = (k : Int) := by rw [Int.tdiv_eq_ediv_of_nonneg (by omega)]; omega
      have hq2 : (i : Int) / 2 = (k : Int) := by omega
      have hq3 : IntKind.i64.wrap (k : Int) = k := IntWalk.i64_in _ (by omega)
      have hkl : (k : Int) < s.L.length := by omega
      have hk0 : (0 : Int) ≤ k := by omega
      rw [← hkk] at x2 x3
      rcases Nat.mod_two_eq_zero_or_one i with h0 | h0
      · have hr1 : (i : Int).tmod 2 = 0 := by rw [Int.tmod_eq_emod_of_nonneg (by omega)]; omega
        have hr2 : (i : Int) % 2 = 0 := by omega
        have HW := Lib.hid (HWT.out e.u)
        have HH := Lib.hid (And.intro h0 hkk)
        clear h0 hkk hk
        go_wp2_with fail
        refine HW.out.mono ?_
        rintro _ w5 ⟨v5, r5, rfl, hu5, hr5, hq5, hF5⟩
        have HR5 := Lib.hid (And.intro hu5 (And.intro hr5 (And.intro hq5 hF5))); clear hr5 hq5 hF5
        obtain ⟨a5, c5, rfl⟩ := hu5.slice
        clear hu5
        go_wp2_with fail
        have hws := HS.out.2.2.2.2.1.size
        refine ⟨⟨i + 1, by omega, by go_num, rfl, Lib.hid ⟨r5, HR5.out.1, HR5.out.2.1.sorted HS.out.1, fun x => ?_, by have := HR5.out.2.1.len; have := HS.out.2.2.1; omega, fun q hq => by have := HR5.out.2.2.1 q hq; omega, HS.out.2.2.2.2.1.trans' HR5.out.2.2.2⟩⟩, by simp [intOf]; omega⟩
        rw [HR5.out.2.1.mem, HSU.out, HS.out.2.1, if_neg (by have := HH.out.1; omega)]
      · have hr1 : (i : Int).tmod 2 = 1 := by rw [Int.tmod_eq_emod_of_nonneg (by omega)]; omega
        have hr2 : (i : Int) % 2 = 1 := by omega
        have HW := Lib.hid (HWT.out e.v)
        have HH := Lib.hid (And.intro h0 hkk)
        clear h0 hkk hk
        go_wp2_with fail
        refine HW.out.mono ?_
        rintro _ w5 ⟨v5, r5, rfl, hu5, hr5, hq5, hF5⟩
        have HR5 := Lib.hid (And.intro hu5 (And.intro hr5 (And.intro hq5 hF5))); clear hr5 hq5 hF5
        obtain ⟨a5, c5, rfl⟩ := hu5.slice
        clear hu5
        go_wp2_with fail
        have hws := HS.out.2.2.2.2.1.size
        refine ⟨⟨i + 1, by omega, by go_num, rfl, Lib.hid ⟨r5, HR5.out.1, HR5.out.2.1.sorted HS.out.1, fun x => ?_, by have := HR5.out.2.1.len; have := HS.out.2.2.1; omega, fun q hq => by have := HR5.out.2.2.1 q hq; omega, HS.out.2.2.2.2.1.trans' HR5.out.2.2.2⟩⟩, by simp [intOf]; omega⟩
        rw [HR5.out.2.1.mem, HSU.out, HS.out.2.1, if_pos HH.out.1]
    · obtain rfl : i = 2 * s.L.length := by omega
      have hii : ¬ (((2 * s.L.length : Nat) : Int) < 2 * (s.L.length : Int)) := by omega
      go_wp2_with fail
      go_ret
      exact ⟨_, rfl, by rw [← ids_uniq Hok.out HS.out.1 (fun y => by rw [HS.out.2.1, EndsI.all])]; exact HS.out.2.2.2.2.2, HS.out.2.2.2.1, HS.out.2.2.2.2.1⟩
theorem rs_verts (h : RSB w pr pa pt vL vU vC vR vT vF s c n cl) : Calls Tryz.prog 31 #[ptr pr] w fun e w' => e = .returned (.int .i64 s.M.L.length) ∧ Fr [] w w' := by
  have HI := Lib.hid (rs_ids h)
  have HL := Lib.hid (Sm.ids_len s)
  clear h
  go_enter Tryz.func31, Tryz.ntmps31
  go_wp2_with fail
  refine HI.out.mono ?_
  rintro _ w1 ⟨v, rfl, hu, _, hF⟩
  obtain ⟨a, c', rfl⟩ := hu.slice
  have HF := Lib.hid hF
  clear hu hF
  go_wp2
  go_ret
  exact ⟨by rw [← HL.out]; rfl, HF.out⟩
theorem rs_check (h : RSB w pr pa pt vL vU vC vR vT vF s c n cl) (u v : Nat) (wt t : Int) : Calls Tryz.prog 16 #[ptr pr, recA u v wt t] w fun e w' => e = .returned (.int .i64 (s.chk u v)) ∧ Fr [] w w' := by
  have hn := sm_len_le h.ok
  have hml := md_len_le h.ok
  have hV4 := h.ok.leV
  obtain ⟨code, hcode⟩ : ∃ code, code = s.chk u v := ⟨_, rfl⟩
  rw [← hcode]
  have HCD := Lib.hid hcode; clear hcode
  have hEs := h.ok.sl
  have HUS := Lib.hid (Sm.len_used h.ok)
  have hlE : s.L.length ≤ s.E := by
    have h2 := HUS.out
    have h3 := h.ok.ar.hb
    unfold Ar.used at h2
    omega
  have Hok := Lib.hid h.ok
  obtain ⟨aL, cL, rfl⟩ := h.row.slice
  have hf0 : Fr [] w (w.alloc (.cells #[.int .u64 u, .int .u64 v, .int .i64 wt, .int .i64 t] 34)) := (Fr.refl [] w).alloc _
  have hbx : Blk (w.alloc (.cells #[.int .u64 u, .int .u64 v, .int .i64 wt, .int .i64 t] 34)) w.heap.size 34 [.int .u64 u, .int .u64 v, .int .i64 wt, .int .i64 t] := Blk.new w _ _
  have H1 := Lib.hid (And.intro (h.fr0 hf0) (And.intro hbx hf0)); clear h hf0 hbx
  go_enter Tryz.func16, Tryz.ntmps16
  go_wp2_with fail
  generalize w.alloc (.cells #[.int .u64 u, .int .u64 v, .int .i64 wt, .int .i64 t] 34) = w1 at *
  refine (rs_valid H1.out.1).mono ?_
  rintro _ w1 ⟨rfl, rfl⟩
  have r0 := H1.out.2.1.cell 0
  have r1 := H1.out.2.1.cell 1
  have c3 := H1.out.1.hd.cell 3
  have c4 := H1.out.1.hd.cell 4
  simp only [List.getElem?_cons_zero, List.getElem?_cons_succ] at r0 r1 c3 c4
  by_cases huv : u = v
  · subst huv
    have HCD' := Lib.hid (show code = 9 by rw [HCD.out]; unfold Sm.chk; rw [if_pos rfl])
    go_wp2_with fail
    go_ret
    exact ⟨by rw [HCD'.out]; rfl, H1.out.2.2⟩
  · have d1 : ((u : Int) == v) = false := beq_eq_false_iff_ne.2 (by omega)
    have HUV := Lib.hid huv; clear huv
    go_wp2_with fail
    have HA : Hid (∀ (w' : World), Fr [] w1 w' → Calls Tryz.prog 52 #[ptr pa] w' fun e w'' => e = .returned (.int .i64 s.E) ∧ w'' = w') := Lib.hid (fun w' hf => by rw [← hEs]; exact racap_w (H1.out.1.fr0 hf).ar)
    clear hEs
    refine region_cw (fun w' => Fr [] w1 w') (by kernel_rfl) (by kernel_rfl) ((Fr.refl [] w1).drew) ?_
    iterate 3 (refine cw_pure (by kernel_rfl) (fun KK hK => ?_); go_simp; refine hK.out _ ?_; clear hK KK)
    refine cw_val (by kernel_rfl) (.slice aL s.L.length cL) (fun w' hw' => ?_) ?_
    · have c3 := hw'.cell c3 (by simp)
      go_simp
      first | exact hw' | exact ⟨rfl, hw'⟩ | skip
    iterate 4 (refine cw_pure (by kernel_rfl) (fun KK hK => ?_); go_simp; refine hK.out _ ?_; clear hK KK)
    refine cw_val (by kernel_rfl) (ptr pa) (fun w' hw' => ?_) ?_
    · have c4 := hw'.cell c4 (by simp)
      go_simp
      first | exact hw' | exact ⟨rfl, hw'⟩ | skip
    refine cw_val (by kernel_rfl) (.int .i64 s.E) (fun w' hw' => ?_) ?_
    · go_simp
      refine (HA.out w' hw').mono ?_
      rintro _ w6 ⟨rfl, rfl⟩
      exact ⟨rfl, hw'⟩
    iterate 1 (refine cw_pure (by kernel_rfl) (fun KK hK => ?_); go_simp; refine hK.out _ ?_; clear hK KK)
    refine cw_nil ?_
    intro w2 hf2
    have HB2 := Lib.hid (H1.out.1.fr0 hf2)
    have HF2 := Lib.hid (H1.out.2.2.trans' hf2)
    have r0 := hf2.cell r0 (by simp)
    have r1 := hf2.cell r1 (by simp)
    have HX := Lib.hid (And.intro r0 r1)
    clear hf2 HA c3 c4 d1
    by_cases hfull : s.L.length = s.E
    · have HCD' := Lib.hid (show code = 12 by rw [HCD.out]; unfold Sm.chk; rw [if_neg HUV.out, if_pos (by rw [HUS.out]; omega)])
      have d1 : ((s.L.length : Int) == s.E) = true := by simp; omega
      clear hfull
      go_wp2_with fail
      go_ret
      exact ⟨by rw [HCD'.out]; rfl, HF2.out⟩
    · have d1 : ((s.L.length : Int) == s.E) = false := by simp; omega
      have HFU := Lib.hid (show ¬ s.E ≤ s.A.used by rw [HUS.out]; omega)
      clear hfull
      have Hmo : Hid (s.more u v = nf (s.L.any fun e => e.at u) + nf (s.L.any fun e => e.at v)) := Lib.hid (by rw [vert_any Hok.out, vert_any Hok.out]; rfl)
      have HVu := Lib.hid (rs_isv HB2.out u)
      have HVv := Lib.hid (fun (w' : World) (hf : Fr [] w2 w') => rs_isv (HB2.out.fr0 hf) v)
      generalize (s.L.any fun e => e.at u) = bu at *
      generalize (s.L.any fun e => e.at v) = bv at *
      go_wp2_with fail
      refine HVu.out.mono ?_
      rintro _ w3 ⟨rfl, hF3⟩
      have r1 := hF3.cell r1 (by simp)
      have HV3 := Lib.hid (HVv.out w3 hF3)
      have HF3 := Lib.hid hF3
      clear r0 hF3 HVu HVv d1
      have hil := Sm.ids_len s
      have hW0 : IntKind.i64.wrap (s.ids.length : Int) = s.ids.length := IntWalk.i64_in _ (by omega)
      have hW1 : IntKind.i64.wrap ((s.ids.length : Int) + 1) = (s.ids.length : Int) + 1 := IntWalk.i64_in _ (by omega)
      have hW2 : IntKind.i64.wrap ((s.ids.length : Int) + 2) = (s.ids.length : Int) + 2 := IntWalk.i64_in _ (by omega)
      have HIL := Lib.hid hil; clear hil
      cases bu <;> cases bv
      · go_wp2_with fail
        refine HV3.out.mono ?_
        rintro _ w4 ⟨rfl, hF4⟩
        have HF4 := Lib.hid (HF3.out.trans' hF4)
        have hB4 := HB2.out.fr0 HF4.out
        have c1 := hB4.hd.cell 1
        simp only [List.getElem?_cons_zero, List.getElem?_cons_succ] at c1
        have HI4 := Lib.hid (rs_ids (hB4.fr0 (Fr.refl [] w4).drew))
        have HC1 := Lib.hid (fun (w' : World) (hf : Fr [] w4.drew w') => hf.cell ((Fr.refl [] w4).drew.cell c1 (by simp)) (by simp))
        clear hF4 hB4 r1
        go_wp2_with fail
        go_region_held3 (fun w' => w'.cell? ⟨pr, 1, none⟩ = some (.int .i64 s.V))
          (first
            | go_keep
            | (exact HC1.out _ hF5)
            | (exact HC1.out _ (Fr.refl [] _)))
          (first
            | (go_at_call 37; refine HI4.out.mono ?_; rintro _ w5 ⟨v5, rfl, hu5, hq5, hF5⟩; obtain ⟨a5, c5, rfl⟩ := hu5.slice))
        by_cases hov : s.V < s.ids.length + 2
        · have hov' : (s.V : Int) < (s.ids.length : Int) + 2 := by omega
          have HCD' := Lib.hid (show code = 11 by rw [HCD.out]; unfold Sm.chk; rw [if_neg HUV.out, if_neg HFU.out, if_pos (by rw [Hmo.out, ← HIL.out]; simp [nf]; omega)])
          clear hov
          go_wp2_with fail
          go_ret
          exact ⟨by rw [HCD'.out]; rfl, HF2.out.trans' (HF4.out.trans' ((Fr.refl [] _).drew.trans' hF5))⟩
        · have hov' : ¬ (s.V : Int) < (s.ids.length : Int) + 2 := by omega
          have HCD' := Lib.hid (show code = 0 by rw [HCD.out]; unfold Sm.chk; rw [if_neg HUV.out, if_neg HFU.out, if_neg (by rw [Hmo.out, ← HIL.out]; simp [nf]; omega)])
          clear hov
          go_wp2_with fail
          go_ret
          exact ⟨by rw [HCD'.out]; rfl, HF2.out.trans' (HF4.out.trans' ((Fr.refl [] _).drew.trans' hF5))⟩
      · go_wp2_with fail
        refine HV3.out.mono ?_
        rintro _ w4 ⟨rfl, hF4⟩
        have HF4 := Lib.hid (HF3.out.trans' hF4)
        have hB4 := HB2.out.fr0 HF4.out
        have c1 := hB4.hd.cell 1
        simp only [List.getElem?_cons_zero, List.getElem?_cons_succ] at c1
        have HI4 := Lib.hid (rs_ids (hB4.fr0 (Fr.refl [] w4).drew))
        have HC1 := Lib.hid (fun (w' : World) (hf : Fr [] w4.drew w') => hf.cell ((Fr.refl [] w4).drew.cell c1 (by simp)) (by simp))
        clear hF4 hB4 r1
        go_wp2_with fail
        go_region_held3 (fun w' => w'.cell? ⟨pr, 1, none⟩ = some (.int .i64 s.V))
          (first
            | go_keep
            | (exact HC1.out _ hF5)
            | (exact HC1.out _ (Fr.refl [] _)))
          (first
            | (go_at_call 37; refine HI4.out.mono ?_; rintro _ w5 ⟨v5, rfl, hu5, hq5, hF5⟩; obtain ⟨a5, c5, rfl⟩ := hu5.slice))
        by_cases hov : s.V < s.ids.length + 1
        · have hov' : (s.V : Int) < (s.ids.length : Int) + 1 := by omega
          have HCD' := Lib.hid (show code = 11 by rw [HCD.out]; unfold Sm.chk; rw [if_neg HUV.out, if_neg HFU.out, if_pos (by rw [Hmo.out, ← HIL.out]; simp [nf]; omega)])
          clear hov
          go_wp2_with fail
          go_ret
          exact ⟨by rw [HCD'.out]; rfl, HF2.out.trans' (HF4.out.trans' ((Fr.refl [] _).drew.trans' hF5))⟩
        · have hov' : ¬ (s.V : Int) < (s.ids.length : Int) + 1 := by omega
          have HCD' := Lib.hid (show code = 0 by rw [HCD.out]; unfold Sm.chk; rw [if_neg HUV.out, if_neg HFU.out, if_neg (by rw [Hmo.out, ← HIL.out]; simp [nf]; omega)])
          clear hov
          go_wp2_with fail
          go_ret
          exact ⟨by rw [HCD'.out]; rfl, HF2.out.trans' (HF4.out.trans' ((Fr.refl [] _).drew.trans' hF5))⟩
      · go_wp2_with fail
        refine HV3.out.mono ?_
        rintro _ w4 ⟨rfl, hF4⟩
        have HF4 := Lib.hid (HF3.out.trans' hF4)
        have hB4 := HB2.out.fr0 HF4.out
        have c1 := hB4.hd.cell 1
        simp only [List.getElem?_cons_zero, List.getElem?_cons_succ] at c1
        have HI4 := Lib.hid (rs_ids (hB4.fr0 (Fr.refl [] w4).drew))
        have HC1 := Lib.hid (fun (w' : World) (hf : Fr [] w4.drew w') => hf.cell ((Fr.refl [] w4).drew.cell c1 (by simp)) (by simp))
        clear hF4 hB4 r1
        go_wp2_with fail
        go_region_held3 (fun w' => w'.cell? ⟨pr, 1, none⟩ = some (.int .i64 s.V))
          (first
            | go_keep
            | (exact HC1.out _ hF5)
            | (exact HC1.out _ (Fr.refl [] _)))
          (first
            | (go_at_call 37; refine HI4.out.mono ?_; rintro _ w5 ⟨v5, rfl, hu5, hq5, hF5⟩; obtain ⟨a5, c5, rfl⟩ := hu5.slice))
        by_cases hov : s.V < s.ids.length + 1
        · have hov' : (s.V : Int) < (s.ids.length : Int) + 1 := by omega
          have HCD' := Lib.hid (show code = 11 by rw [HCD.out]; unfold Sm.chk; rw [if_neg HUV.out, if_neg HFU.out, if_pos (by rw [Hmo.out, ← HIL.out]; simp [nf]; omega)])
          clear hov
          go_wp2_with fail
          go_ret
          exact ⟨by rw [HCD'.out]; rfl, HF2.out.trans' (HF4.out.trans' ((Fr.refl [] _).drew.trans' hF5))⟩
        · have hov' : ¬ (s.V : Int) < (s.ids.length : Int) + 1 := by omega
          have HCD' := Lib.hid (show code = 0 by rw [HCD.out]; unfold Sm.chk; rw [if_neg HUV.out, if_neg HFU.out, if_neg (by rw [Hmo.out, ← HIL.out]; simp [nf]; omega)])
          clear hov
          go_wp2_with fail
          go_ret
          exact ⟨by rw [HCD'.out]; rfl, HF2.out.trans' (HF4.out.trans' ((Fr.refl [] _).drew.trans' hF5))⟩
      · go_wp2_with fail
        refine HV3.out.mono ?_
        rintro _ w4 ⟨rfl, hF4⟩
        have HF4 := Lib.hid (HF3.out.trans' hF4)
        have hB4 := HB2.out.fr0 HF4.out
        have c1 := hB4.hd.cell 1
        simp only [List.getElem?_cons_zero, List.getElem?_cons_succ] at c1
        have HI4 := Lib.hid (rs_ids (hB4.fr0 (Fr.refl [] w4).drew))
        have HC1 := Lib.hid (fun (w' : World) (hf : Fr [] w4.drew w') => hf.cell ((Fr.refl [] w4).drew.cell c1 (by simp)) (by simp))
        clear hF4 hB4 r1
        go_wp2_with fail
        go_region_held3 (fun w' => w'.cell? ⟨pr, 1, none⟩ = some (.int .i64 s.V))
          (first
            | go_keep
            | (exact HC1.out _ hF5)
            | (exact HC1.out _ (Fr.refl [] _)))
          (first
            | (go_at_call 37; refine HI4.out.mono ?_; rintro _ w5 ⟨v5, rfl, hu5, hq5, hF5⟩; obtain ⟨a5, c5, rfl⟩ := hu5.slice))
        by_cases hov : s.V < s.ids.length
        · have hov' : (s.V : Int) < (s.ids.length : Int) := by omega
          have HCD' := Lib.hid (show code = 11 by rw [HCD.out]; unfold Sm.chk; rw [if_neg HUV.out, if_neg HFU.out, if_pos (by rw [Hmo.out, ← HIL.out]; simp [nf]; omega)])
          clear hov
          go_wp2_with fail
          go_ret
          exact ⟨by rw [HCD'.out]; rfl, HF2.out.trans' (HF4.out.trans' ((Fr.refl [] _).drew.trans' hF5))⟩
        · have hov' : ¬ (s.V : Int) < (s.ids.length : Int) := by omega
          have HCD' := Lib.hid (show code = 0 by rw [HCD.out]; unfold Sm.chk; rw [if_neg HUV.out, if_neg HFU.out, if_neg (by rw [Hmo.out, ← HIL.out]; simp [nf]; omega)])
          clear hov
          go_wp2_with fail
          go_ret
          exact ⟨by rw [HCD'.out]; rfl, HF2.out.trans' (HF4.out.trans' ((Fr.refl [] _).drew.trans' hF5))⟩
end
end Go.Proofs.YtbegdgnhpklceaaGreat

namespace Go.Proofs.YtbegdgnhpklceaaGreat
open Go.RowKit
set_option maxRecDepth 10000
set_option maxHeartbeats 1600000

theorem Blk.fr1 {w w' : World} {b : Nat} {t : TypeId} {l : List Value} (h : Blk w b t l) (hf : Fr [] w w') : Blk w' b t l := hf.blk h (by simp)
theorem rs_from (V E L : Nat) (hV : V ≤ 4096) (hE : E ≤ 16384) (hL : L ≤ 9223372036854775807) (w : World) :
    Calls Tryz.prog 9 #[.int .i64 V, .int .i64 E, .int .u64 L] w fun e w' => ∃ pr K, e = .returned (.tuple #[ptr pr, .int .i64 0]) ∧ RSt w' pr (Sm.new V E L) 0 K ∧ Fr [] w w' ∧ ∀ q ∈ K, w.heap.size ≤ q := by
  have d1 : decide ((V : Int) < 0) = false := decide_eq_false (by omega)
  have d2 : decide ((V : Int) > 4096) = false := decide_eq_false (by omega)
  have d3 : decide ((E : Int) < 0) = false := decide_eq_false (by omega)
  have d4 : decide ((E : Int) > 16384) = false := decide_eq_false (by omega)
  have d5 : decide ((L : Int) > 9223372036854775807) = false := decide_eq_false (by omega)
  have HA := Lib.hid (ranew_w w E (by omega))
  have HT := Lib.hid (fun w => rnew_w w V (by omega))
  have Hok := Lib.hid (Sm.ok_new hV hE (show L < 18446744073709551616 by omega))
  clear hV hE hL
  go_enter Tryz.func9, Tryz.ntmps9
  go_wp2_with fail
  refine HA.out.mono ?_
  rintro _ w1 ⟨pa, vU, vC, rfl, hA, hF1, hq1⟩
  have H1 := Lib.hid (And.intro hA (And.intro hF1 hq1)); clear hA hF1 hq1
  go_wp2_with fail
  refine (HT.out w1).mono ?_
  rintro _ w2 ⟨pt, rfl, hT, hF2, hpt⟩
  have H2 := Lib.hid (And.intro hT (And.intro hF2 hpt)); clear hT hF2 hpt
  go_wp2_with fail
  go_ret2
  have s1 := H1.out.2.1.size
  have s2 := H2.out.2.1.size
  have hA2 := H1.out.1.fr0 H2.out.2.1
  have hlA := hA2.lt
  have hlA1 := H1.out.1.lt
  have hptl := H2.out.1.hd.lt
  have hptg := H2.out.2.2
  have hb := Blk.new w2 [.bool true, .int .i64 V, .int .u64 L, .slice none 0 0, ptr pa, ptr pt] 81
  refine ⟨w2.heap.size, _, rfl, ⟨pa, pt, .slice none 0 0, vU, vC, .slice none 0 0, .slice none 0 0, .slice none 0 0, _, fun q => if q = w2.heap.size then 0 else if q < w1.heap.size then 2 else 3, ⟨hb, RowV.nil _, hA2.fr0 ((Fr.refl [] _).alloc _), H2.out.1.fr0 ((Fr.refl [] _).alloc _), Cnt.new E, Hok.out, if_pos rfl, fun q hq => (by cases hq), fun q hq => ?_, fun q hq => ?_⟩, rfl⟩, H1.out.2.1.trans' (H2.out.2.1.trans' ((Fr.refl [] _).alloc _)), fun q hq => ?_⟩
  · have h1 := hlA1 q hq
    rw [if_neg (by omega), if_pos h1]
  · have h1 : q = pt := by simpa [rTB, Value.ownBlock] using hq
    subst h1
    rw [if_neg (by omega), if_neg (by omega)]
  · simp only [rsK, rTB, Value.ownBlock, Option.toList_none, List.nil_append, List.mem_cons, List.mem_append, List.not_mem_nil, or_false] at hq
    rcases hq with rfl | hq | rfl
    · omega
    · exact H1.out.2.2 q hq
    · omega
theorem rs_from_bad (V E : Int) (L : Nat) (h : V < 0 ∨ 4096 < V ∨ E < 0 ∨ 16384 < E ∨ 9223372036854775807 < L) (w : World) :
    Calls Tryz.prog 9 #[.int .i64 V, .int .i64 E, .int .u64 L] w fun e w' => e = .returned (.tuple #[.pointer none, .int .i64 2]) ∧ w' = w := by
  by_cases h1 : V < 0
  · have d1 : decide (V < 0) = true := decide_eq_true h1
    go_enter Tryz.func9, Tryz.ntmps9
    go_wp2
    go_ret2
    exact ⟨rfl, rfl⟩
  · have d1 : decide (V < 0) = false := decide_eq_false h1
    by_cases h2 : 4096 < V
    · have d2 : decide (V > 4096) = true := decide_eq_true h2
      go_enter Tryz.func9, Tryz.ntmps9
      go_wp2
      go_ret2
      exact ⟨rfl, rfl⟩
    · have d2 : decide (V > 4096) = false := decide_eq_false h2
      by_cases h3 : E < 0
      · have d3 : decide (E < 0) = true := decide_eq_true h3
        go_enter Tryz.func9, Tryz.ntmps9
        go_wp2
        go_ret2
        exact ⟨rfl, rfl⟩
      · have d3 : decide (E < 0) = false := decide_eq_false h3
        by_cases h4 : 16384 < E
        · have d4 : decide (E > 16384) = true := decide_eq_true h4
          go_enter Tryz.func9, Tryz.ntmps9
          go_wp2
          go_ret2
          exact ⟨rfl, rfl⟩
        · have d4 : decide (E > 16384) = false := decide_eq_false h4
          have h5 : (L : Int) > 9223372036854775807 := by omega
          have d5 : decide ((L : Int) > 9223372036854775807) = true := decide_eq_true h5
          go_enter Tryz.func9, Tryz.ntmps9
          go_wp2
          go_ret2
          exact ⟨rfl, rfl⟩
theorem rs_new (V E : Nat) (hV : V ≤ 4096) (hE : E ≤ 16384) (w : World) :
    Calls Tryz.prog 6 #[.int .i64 V, .int .i64 E] w fun e w' => ∃ pr K, e = .returned (.tuple #[ptr pr, .int .i64 0]) ∧ RSt w' pr (Sm.new V E 0) 0 K ∧ Fr [] w w' ∧ ∀ q ∈ K, w.heap.size ≤ q := by
  have HF := Lib.hid (rs_from V E 0 hV hE (by omega) w)
  go_enter Tryz.func6, Tryz.ntmps6
  go_wp2_with fail
  refine HF.out.mono ?_
  rintro _ w1 ⟨pr, K, rfl, h1⟩
  have H1 := Lib.hid h1; clear h1
  go_wp2
  go_ret2
  exact ⟨pr, K, rfl, H1.out⟩
theorem rs_new_bad (V E : Int) (h : V < 0 ∨ 4096 < V ∨ E < 0 ∨ 16384 < E) (w : World) :
    Calls Tryz.prog 6 #[.int .i64 V, .int .i64 E] w fun e w' => e = .returned (.tuple #[.pointer none, .int .i64 2]) ∧ w' = w := by
  have HF := Lib.hid (rs_from_bad V E 0 (by omega) w)
  clear h
  go_enter Tryz.func6, Tryz.ntmps6
  go_wp2_with fail
  refine HF.out.mono ?_
  rintro _ w1 ⟨rfl, rfl⟩
  go_wp2
  go_ret2
  exact ⟨rfl, rfl⟩

section
variable {w w' : World} {pr pa pt n : Nat} {vL vU vC vR vT vF : Value} {s : Sm} {c : List Nat} {cl : Nat → Nat} {S K : List Nat}
theorem rs_ins_no (h : RSB w pr pa pt vL vU vC vR vT vF s c n cl) (u v : Nat) (wt t x : Int) (hc : s.chk u v ≠ 0) :
    Calls Tryz.prog 11 #[ptr pr, recA u v wt t, .int .i64 x] w fun e w' => e = .returned (.tuple #[lvA Lv.z, .int .i64 (s.chk u v)]) ∧ Fr [] w w' := by
  have H := Lib.hid h; clear h
  obtain ⟨code, hcode⟩ : ∃ code, code = s.chk u v := ⟨_, rfl⟩
  rw [← hcode] at hc ⊢
  have HCD := Lib.hid hcode; clear hcode
  have d1 : ((code : Int) == 0) = false := beq_eq_false_iff_ne.2 (by omega)
  have d2 : ((code : Int) != 0) = true := bne_iff_ne.2 (by omega)
  clear hc
  go_enter Tryz.func11, Tryz.ntmps11
  have hf0 : Fr [] w ((w.alloc (.cells #[.int .u64 u, .int .u64 v, .int .i64 wt, .int .i64 t] 34)).alloc (.cells #[.int .i64 0, .int .u64 0, .int .u64 0, .int .u64 0, .int .i64 0, .int .i64 0, .int .i64 0] 36)) := ((Fr.refl [] w).alloc _).alloc _
  have HC := Lib.hid (rs_check (H.out.fr0 hf0) u v wt t)
  rw [← HCD.out] at HC
  have hbr : Blk (w.alloc (.cells #[.int .u64 u, .int .u64 v, .int .i64 wt, .int .i64 t] 34)) w.heap.size 34 [.int .u64 u, .int .u64 v, .int .i64 wt, .int .i64 t] := Blk.new w _ _
  have hbr1 := hbr.fr1 ((Fr.refl [] _).alloc (.cells #[.int .i64 0, .int .u64 0, .int .u64 0, .int .u64 0, .int .i64 0, .int .i64 0, .int .i64 0] 36))
  have q0 := hbr1.cell 0; have q1 := hbr1.cell 1; have q2 := hbr1.cell 2; have q3 := hbr1.cell 3
  simp only [List.getElem?_cons_zero, List.getElem?_cons_succ] at q0 q1 q2 q3
  clear hbr hbr1
  have hbx : Blk ((w.alloc (.cells #[.int .u64 u, .int .u64 v, .int .i64 wt, .int .i64 t] 34)).alloc (.cells #[.int .i64 0, .int .u64 0, .int .u64 0, .int .u64 0, .int .i64 0, .int .i64 0, .int .i64 0] 36)) (w.heap.size + 1) 36 [.int .i64 0, .int .u64 0, .int .u64 0, .int .u64 0, .int .i64 0, .int .i64 0, .int .i64 0] := by
    have := Blk.new (w.alloc (.cells #[.int .u64 u, .int .u64 v, .int .i64 wt, .int .i64 t] 34)) [.int .i64 0, .int .u64 0, .int .u64 0, .int .u64 0, .int .i64 0, .int .i64 0, .int .i64 0] 36
    simpa using this
  go_wp2_with fail
  clear q0 q1 q2 q3
  generalize (w.alloc (.cells #[.int .u64 u, .int .u64 v, .int .i64 wt, .int .i64 t] 34)).alloc (.cells #[.int .i64 0, .int .u64 0, .int .u64 0, .int .u64 0, .int .i64 0, .int .i64 0, .int .i64 0] 36) = w1 at *
  refine HC.out.mono ?_
  rintro _ w2 ⟨rfl, h2⟩
  have hb2 := h2.blk hbx (by simp)
  have z := hb2.frozen
  have HF := Lib.hid (hf0.trans' h2)
  have HB2 := Lib.hid (hb2.put7 Lv.z)
  clear hf0 h2 hbx HC
  have t0 := hb2.cell 0; have t1 := hb2.cell 1; have t2 := hb2.cell 2; have t3 := hb2.cell 3; have t4 := hb2.cell 4; have t5 := hb2.cell 5; have t6 := hb2.cell 6
  simp only [List.getElem?_cons_zero, List.getElem?_cons_succ] at t0 t1 t2 t3 t4 t5 t6
  clear hb2
  go_wp2_with fail
  have r := HB2.out.lvAt
  unfold LvAt Go.Proofs.YtbegdgnhpklceaaGreat.put7 at r
  simp only [Lv.z, Nat.zero_add, Int.ofNat_zero] at r
  obtain ⟨r0, r1, r2, r3, r4, r5, r6⟩ := r
  exact bodyPost_ret (v := .tuple #[lvA Lv.z, .int .i64 code]) (by simp [results, Tryz.results11, go_sem, r0, r1, r2, r3, r4, r5, r6, Lv.z]) rfl ⟨rfl, HF.out.put7 _ _ Lv.z (.inr (Nat.le_succ _))⟩
end
end Go.Proofs.YtbegdgnhpklceaaGreat
