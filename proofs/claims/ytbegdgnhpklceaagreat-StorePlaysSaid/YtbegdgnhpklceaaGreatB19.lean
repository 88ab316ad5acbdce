/- A region that draws its order: one invariant over what is listed so far, one step for each operation; any order. -/
import Derived.Test.YtbegdgnhpklceaaGreatB18
import Derived.Test.YtbegdgnhpklceaaGreatB11
set_option linter.unusedSimpArgs false
set_option linter.unusedVariables false
/- The document's store: Remove of a slot in use. -/
namespace Go.Proofs.YtbegdgnhpklceaaGreat
open Go.RowKit
set_option maxRecDepth 10000
set_option maxHeartbeats 3200000

open Sm in
theorem delIf_yes {M : Md} {L : List Lv} {id : Nat} (h : (L.any fun e => e.at id) = true) : delIf M L id = M := by
  unfold Sm.delIf
  rw [if_neg]
  obtain ⟨e, he, hat⟩ := List.any_eq_true.1 h
  exact List.ne_nil_of_mem (mem_incL.2 ⟨e, he, hat, rfl⟩)
open Sm in
theorem delIf_no {M : Md} {L : List Lv} {id : Nat} (h : (L.any fun e => e.at id) = false) : delIf M L id = (M.del id).M := by
  unfold Sm.delIf
  rw [if_pos]
  cases hL : incL L id with
  | nil => rfl
  | cons x r =>
    obtain ⟨e, he, hat, _⟩ := mem_incL.1 (show x ∈ incL L id by rw [hL]; simp)
    rw [List.any_eq_false] at h
    exact absurd hat (h e he)
theorem Stg.lt {w0 w : World} {K0 : List Nat} {pr pa pt V last xb yb : Nat} {y vU vC vR vT vF : Value} {L : List Lv} {A : Ar} {c : List Nat} {M : Md} {e : Lv} {cl : Nat → Nat} (h : Stg w0 K0 w pr pa pt V last y L vU vC vR A c vT vF M xb yb e cl) : ∀ q ∈ rsK pr pa pt y vU vC vR vT vF, q < w.heap.size := by
  intro q hq
  simp only [rsK, List.mem_cons, List.mem_append, Option.mem_toList] at hq
  rcases hq with rfl | hq | hq | hq
  · exact h.hd.lt
  · exact h.row.lt hq
  · exact h.ar.lt q hq
  · exact h.tb.lt q hq
open Sm in
theorem rem_M (s : Sm) (i : Nat) : (s.rem i).M = delIf (delIf s.M (s.L.filter fun e => e.slot != i) (liveAt s.L i).u) (s.L.filter fun e => e.slot != i) (liveAt s.L i).v := rfl
section
variable {w w' : World} {pr pa pt n : Nat} {vL vU vC vR vT vF : Value} {s : Sm} {c : List Nat} {cl : Nat → Nat} {S K : List Nat}
theorem rs_rem_yes (h : RSB w pr pa pt vL vU vC vR vT vF s c n cl) (i : Nat) (hu : s.A.isUsed i) :
    Calls Tryz.prog 14 #[ptr pr, .int .i64 i] w fun e w' => e = .returned (.tuple #[lvA (liveAt s.L i), .int .i64 0]) ∧
      ∃ K', RSt w' pr (s.rem i) n K' ∧ Fr (rsK pr pa pt vL vU vC vR vT vF) w w' ∧ ∀ q ∈ K', q ∈ rsK pr pa pt vL vU vC vR vT vF ∨ w.heap.size ≤ q := by
  have Hok' := Lib.hid (Sm.ok_rem h.ok hu)
  have hlen := sm_len_le h.ok
  have hokA := h.ok.ar
  have hhas : s.has i = true := (Sm.has_iff h.ok _).2 ⟨by omega, by simpa using hu⟩
  have hgot : s.got i = liveAt s.L i := by unfold Sm.got; rw [if_pos (by omega), Int.toNat_natCast]
  have hiE : i < s.E := by have h1 := hu.1; have h2 := hokA.hb; have h3 := h.ok.sl; omega
  have HMO := Lib.hid h.ok.md
  have HCN := Lib.hid (h.cn.put (i := i))
  have HKK := Lib.hid (And.intro h.kp (And.intro h.kl (And.intro h.ka h.kt)))
  have HLT := Lib.hid h.lt
  have hsl := h.ok.sl
  have hRM := rem_M s i
  obtain ⟨e, he⟩ : ∃ e, e = liveAt s.L i := ⟨_, rfl⟩
  rw [← he] at hgot hRM ⊢
  obtain ⟨Lf, hLf⟩ : ∃ Lf, Lf = s.L.filter (fun e => e.slot != i) := ⟨_, rfl⟩
  rw [← hLf] at hRM
  have hLfl : Lf.length ≤ 16384 := by rw [hLf]; exact Nat.le_trans (List.length_filter_le _ _) hlen
  have HRM := Lib.hid (And.intro hRM (And.intro hLf he)); clear hRM hLf he
  obtain ⟨aL, cL, rfl⟩ := h.row.slice
  have hf0 : Fr [] w (w.alloc (.cells #[.int .i64 0, .int .u64 0, .int .u64 0, .int .u64 0, .int .i64 0, .int .i64 0, .int .i64 0] 36)) := (Fr.refl [] w).alloc _
  have hbx : Blk (w.alloc (.cells #[.int .i64 0, .int .u64 0, .int .u64 0, .int .u64 0, .int .i64 0, .int .i64 0, .int .i64 0] 36)) w.heap.size 36 zL := Blk.new w zL _
  have HC : Hid (Calls Tryz.prog 52 #[ptr pa] (w.alloc (.cells #[.int .i64 0, .int .u64 0, .int .u64 0, .int .u64 0, .int .i64 0, .int .i64 0, .int .i64 0] 36)) fun e w'' => e = .returned (.int .i64 s.E) ∧ w'' = (w.alloc (.cells #[.int .i64 0, .int .u64 0, .int .u64 0, .int .u64 0, .int .i64 0, .int .i64 0, .int .i64 0] 36))) := Lib.hid (by rw [← hsl]; exact racap_w (h.ar.fr0 hf0))
  have hG := rs_get (h.fr0 hf0) i
  rw [hgot, hhas] at hG
  have HG := Lib.hid hG; clear hG
  have HV := Lib.hid (rs_valid (h.fr0 hf0))
  have hB := h.fr0 hf0
  have c4 := hB.hd.cell 4
  simp only [List.getElem?_cons_zero, List.getElem?_cons_succ] at c4
  have H1 := Lib.hid (And.intro hB (And.intro hbx (And.intro hf0 (show w.heap.size + 1 = (w.alloc (.cells #[.int .i64 0, .int .u64 0, .int .u64 0, .int .u64 0, .int .i64 0, .int .i64 0, .int .i64 0] 36)).heap.size by simp))))
  clear hB h hsl hgot hhas hbx hf0
  go_enter Tryz.func14, Tryz.ntmps14
  go_wp2_with fail
  generalize w.alloc (.cells #[.int .i64 0, .int .u64 0, .int .u64 0, .int .u64 0, .int .i64 0, .int .i64 0, .int .i64 0] 36) = w1 at *
  refine HV.out.mono ?_
  rintro _ w1 ⟨rfl, rfl⟩
  clear HV
  have d1 : decide ((i : Int) < 0) = false := decide_eq_false (by omega)
  have d2 : decide ((i : Int) ≥ (s.E : Int)) = false := decide_eq_false (by omega)
  go_wp2_with fail
  refine HC.out.mono ?_
  rintro _ w1 ⟨rfl, rfl⟩
  go_wp2_with fail
  refine HG.out.mono ?_
  rintro _ w2 ⟨rfl, hF2⟩
  clear HC HG c4 d1 d2
  have hs12 := hF2.size
  have hF3 : Fr [] w1 (w2.alloc (.cells #[.int .i64 e.slot, .int .u64 e.seq, .int .u64 e.u, .int .u64 e.v, .int .i64 e.wt, .int .i64 e.t, .int .i64 e.x] 36)) := hF2.trans' ((Fr.refl [] w2).alloc _)
  have hy3 : Blk (w2.alloc (.cells #[.int .i64 e.slot, .int .u64 e.seq, .int .u64 e.u, .int .u64 e.v, .int .i64 e.wt, .int .i64 e.t, .int .i64 e.x] 36)) w2.heap.size 36 (lvC e) := Blk.new w2 (lvC e) _
  have hB3 := H1.out.1.fr0 hF3
  have hS3 : Stg w (rsK pr pa pt (.slice aL s.L.length cL) vU vC vR vT vF) (w2.alloc (.cells #[.int .i64 e.slot, .int .u64 e.seq, .int .u64 e.u, .int .u64 e.v, .int .i64 e.wt, .int .i64 e.t, .int .i64 e.x] 36)) pr pa pt s.V s.last (.slice aL s.L.length cL) s.L vU vC vR s.A c vT vF s.M w.heap.size w2.heap.size e (fun q => if q < w.heap.size then cl q else if q = w.heap.size then 4 else 5) := by
    have h1 := H1.out.2.2.2
    have hk : ∀ {q k : Nat}, q ∈ (rsK pr pa pt (.slice aL s.L.length cL) vU vC vR vT vF) → cl q = k → (if q < w.heap.size then cl q else if q = w.heap.size then 4 else 5) = k := fun hq hc => by rw [if_pos (HLT.out _ hq)]; exact hc
    exact ⟨hB3.hd, hB3.row, hB3.ar, hB3.tb, H1.out.2.1.fr1 hF3, hy3, hk (by simp [rsK]) HKK.out.1, fun q hq => hk (by simp [rsK, hq]) (HKK.out.2.1 q hq), fun q hq => hk (by simp [rsK, hq]) (HKK.out.2.2.1 q hq), fun q hq => hk (by simp [rsK, hq]) (HKK.out.2.2.2 q hq),
      by rw [if_neg (by omega), if_pos rfl], by rw [if_neg (by omega), if_neg (by omega)], (H1.out.2.2.1.trans' hF3).mono (by simp), fun q hq => .inl hq, Nat.le_refl _⟩
  have HS3 := Lib.hid (And.intro hS3 (And.intro (show w2.heap.size + 1 = (w2.alloc (.cells #[.int .i64 e.slot, .int .u64 e.seq, .int .u64 e.u, .int .u64 e.v, .int .i64 e.wt, .int .i64 e.t, .int .i64 e.x] 36)).heap.size by simp) (show w.heap.size < w2.heap.size by have := H1.out.2.2.2; omega)))
  clear hS3 hB3 hy3 hF3 hF2 H1 hs12
  go_wp2_with fail
  obtain ⟨yb, hyb⟩ : ∃ yb, yb = w2.heap.size := ⟨_, rfl⟩
  rw [← hyb] at HS3 ⊢
  clear hyb
  generalize w2.alloc (.cells #[.int .i64 e.slot, .int .u64 e.seq, .int .u64 e.u, .int .u64 e.v, .int .i64 e.wt, .int .i64 e.t, .int .i64 e.x] 36) = w3 at *
  go_loopw [8, 9] (fun y z wr => ∃ k : Nat, k ≤ s.L.length ∧ z = .int .i64 k ∧ okS y = true ∧ Hid (RowV wr y ((s.L.take k).filter fun e => e.slot != i) ∧ (∀ q, y.ownBlock = some q → w3.heap.size ≤ q) ∧ Fr [] w3 wr)) (fun _ z _ => s.L.length - (intOf z).toNat)
  case atStart => exact ⟨0, Nat.zero_le _, rfl, rfl, Lib.hid ⟨RowV.nil _, fun q e => (by cases e), Fr.refl _ _⟩⟩
  case round =>
    obtain ⟨k, hk, rfl, _, HR⟩ := hrel
    rename World => wr
    rename Value => y
    have hfl : ((s.L.take k).filter fun e => e.slot != i).length ≤ 16384 := by
      have := List.length_filter_le (fun (e : Lv) => e.slot != i) (s.L.take k)
      simp at this; omega
    obtain ⟨ay, cy, rfl⟩ := HR.out.1.slice
    have HSr := Lib.hid (HS3.out.1.fr0 HR.out.2.2)
    have c3 := HSr.out.hd.cell 3
    have f3 := HSr.out.hd.frozen 3
    simp only [List.getElem?_cons_zero, List.getElem?_cons_succ] at c3
    by_cases hil : k < s.L.length
    · have hii : (k : Int) < s.L.length := by omega
      obtain ⟨b, cv', ev, _, hbl, _, hat⟩ := HSr.out.row.at hil
      simp only [Value.slice.injEq, true_and] at ev
      obtain ⟨rfl, rfl⟩ := ev
      obtain ⟨e', he'⟩ : ∃ e', e' = s.L[k] := ⟨_, rfl⟩
      have hsu : (s.L.take (k + 1)).filter (fun e => e.slot != i) = (s.L.take k).filter (fun e => e.slot != i) ++ if e'.slot = i then [] else [e'] := by
        rw [List.take_succ_eq_append_getElem hil, List.filter_append, ← he']
        congr 1
        by_cases h : e'.slot = i <;> simp [h]
      rw [← he'] at hat
      clear he'
      obtain ⟨e0, e1, e2, e3, e4, e5, e6⟩ := hat
      by_cases hei : e'.slot = i
      · rw [if_pos hei, List.append_nil] at hsu
        have HSU := Lib.hid hsu
        have dd : ((e'.slot : Int) != (i : Int)) = false := by simp; omega
        clear hei hsu e1 e2 e3 e4 e5 e6 f3
        go_wp2_with fail
        exact ⟨⟨k + 1, by omega, by go_num, rfl, Lib.hid (by rw [HSU.out]; exact HR.out)⟩, by simp [intOf]; omega⟩
      · rw [if_neg hei] at hsu
        have HSU := Lib.hid hsu
        have dd : ((e'.slot : Int) != (i : Int)) = true := by simp; omega
        clear hei hsu f3
        have HRW := Lib.hid (HR.out.1.fr0 ((Fr.refl [] wr).alloc (.cells (lvC e').toArray 36)))
        have HZ := Lib.hid (show Blk (wr.alloc (.cells (lvC e').toArray 36)) wr.heap.size 36 (lvC e') from Blk.new wr (lvC e') 36)
        have H7 := Lib.hid (show ∀ u ∈ lvC e', u.oneCell' = true from fun u hu => by simp [lvC] at hu; rcases hu with rfl | rfl | rfl | rfl | rfl | rfl | rfl <;> rfl)
        generalize (s.L.take k).filter (fun e => e.slot != i) = li at *
        go_wp2_with (first | (at_builtin; refine wpList_appK rfl _ _ 60 rfl 36 lvZero 7 56 Tryz.underlying60 Tryz.info36 rfl (by decide) (.slice ay li.length cy) li.length _ rfl HRW.out wr.heap.size 36 (lvC e') rfl HZ.out rfl H7.out (by omega) (by decide) ?_; intro g8 cap8 w8 hown8 hgrow8 hg8) | fail)
        have hF8 := (Fr.refl (Value.slice ay li.length cy).ownBlock.toList _).grown hgrow8 (fun q e => .inl (by simp [e]))
        have hs0 := HR.out.2.2.size
        refine ⟨⟨k + 1, by omega, by go_num, rfl, Lib.hid ⟨?_, fun q hq => ?_, (HR.out.2.2.alloc _).trans hF8 (fun q hq => .inr (HR.out.2.1 q (by simpa using hq)))⟩⟩, by simp [intOf]; omega⟩
        · rw [HSU.out]
          unfold RowV
          rw [List.length_append, rowV_snoc]
          exact hown8
        · simp only [Value.ownBlock, Option.some.injEq] at hq
          subst hq
          rcases hg8 with h | h
          · exact HR.out.2.1 _ h
          · simp only [World.size_alloc] at h; omega
    · obtain rfl : k = s.L.length := by omega
      have hRr := HR.out.1
      rw [List.take_length, ← HRM.out.2.1] at hRr
      have hlf : ((s.L.take s.L.length).filter fun e => e.slot != i).length = Lf.length := by rw [List.take_length, ← HRM.out.2.1]
      rw [hlf] at HR ⊢
      obtain ⟨cl4, hS4⟩ := HSr.out.setL (m := w3.heap.size) hRr HR.out.2.1 (fun q hq => HS3.out.1.lt q hq) HS3.out.1.xx.lt HS3.out.1.yy.lt HS3.out.1.fr.size
      have HS4 := Lib.hid hS4
      clear hS4 hRr hlf hfl HSr
      have c4 := HS4.out.hd.cell 4
      simp only [List.getElem?_cons_zero, List.getElem?_cons_succ] at c4
      have HFr := Lib.hid (rafree_w HS4.out.ar hokA hu)
      go_wp2_with fail
      generalize wr.setCell ⟨pr, 3, none⟩ (.slice ay Lf.length cy) = w4 at *
      clear c3 f3
      refine HFr.out.mono ?_
      rintro _ w5 ⟨rfl, vR5, hA5, hF5, hq5⟩
      obtain ⟨cl5, hS5⟩ := HS4.out.arn hA5 hF5 hq5
      have HS5 := Lib.hid hS5
      clear hS5 hA5 hF5 hq5 HS4 HFr c4
      have y2 := HS5.out.yy.lvAt.2.2.1
      have y3 := HS5.out.yy.lvAt.2.2.2.1
      have c3 := HS5.out.hd.cell 3
      simp only [List.getElem?_cons_zero, List.getElem?_cons_succ, Nat.zero_add] at c3 y2 y3
      have HIu := Lib.hid (rs_isv0 c3 HS5.out.row hLfl e.u)
      obtain ⟨bu, hbu⟩ : ∃ bu, bu = (Lf.any fun x => x.at e.u) := ⟨_, rfl⟩
      rw [← hbu] at HIu
      have HBU := Lib.hid hbu.symm; clear hbu
      go_wp2_with fail
      refine HIu.out.mono ?_
      rintro _ w6 ⟨rfl, hF6⟩
      have HS6 := Lib.hid (HS5.out.fr0 hF6)
      clear hF6 HS5 HIu c3 y2 y3
      cases bu with
      | true =>
        have y3 := HS6.out.yy.lvAt.2.2.2.1
        have c3 := HS6.out.hd.cell 3
        simp only [List.getElem?_cons_zero, List.getElem?_cons_succ, Nat.zero_add] at c3 y3
        have HIv := Lib.hid (rs_isv0 c3 HS6.out.row hLfl e.v)
        obtain ⟨bv, hbv⟩ : ∃ bv, bv = (Lf.any fun x => x.at e.v) := ⟨_, rfl⟩
        rw [← hbv] at HIv
        have HBV := Lib.hid hbv.symm; clear hbv
        go_wp2_with fail
        refine HIv.out.mono ?_
        rintro _ w9 ⟨rfl, hF9⟩
        have HS9 := Lib.hid (HS6.out.fr0 hF9)
        clear hF9 HS6 HIv c3 y3
        cases bv with
        | true =>
          have hM : (s.rem i).M = s.M := by rw [HRM.out.1, delIf_yes HBU.out, delIf_yes HBV.out]
          have hst := HS9.out
          rw [← hM, show Lf = (s.rem i).L from HRM.out.2.1] at hst
          have HD := Lib.hid (Stg.done (s := s.rem i) hst Hok'.out HCN.out e)
          clear hst hM
          obtain ⟨g0, g1, g2, g3, g4, g5, g6⟩ := HS9.out.yy.lvAt
          have z := HS9.out.xx.frozen
          have t0 := HS9.out.xx.cell 0; have t1 := HS9.out.xx.cell 1; have t2 := HS9.out.xx.cell 2; have t3 := HS9.out.xx.cell 3; have t4 := HS9.out.xx.cell 4; have t5 := HS9.out.xx.cell 5; have t6 := HS9.out.xx.cell 6
          simp only [List.getElem?_cons_zero, List.getElem?_cons_succ, Nat.zero_add] at g0 g1 g2 g3 g4 g5 g6 t0 t1 t2 t3 t4 t5 t6
          have HX := Lib.hid (HS9.out.xx.put7 e)
          have hne : w.heap.size ≠ yb := by have := HS3.out.2.2; have := HS3.out.2.1; intro e; have h4 := HS9.out.kx; have h5 := HS9.out.ky; rw [e] at h4; omega
          go_wp2_with fail
          have r := HX.out.lvAt
          unfold LvAt Go.Proofs.YtbegdgnhpklceaaGreat.put7 at r
          simp only [Nat.zero_add] at r
          obtain ⟨r0, r1, r2, r3, r4, r5, r6⟩ := r
          exact bodyPost_ret (v := .tuple #[lvA e, .int .i64 0]) (by simp [results, Tryz.results14, go_sem, r0, r1, r2, r3, r4, r5, r6]) rfl ⟨rfl, HD.out⟩
        | false =>
          have c5 := HS9.out.hd.cell 5
          have y3 := HS9.out.yy.lvAt.2.2.2.1
          simp only [List.getElem?_cons_zero, List.getElem?_cons_succ, Nat.zero_add] at c5 y3
          have HDel := Lib.hid (rdel_w (HS9.out.tb.fr0 (Fr.refl [] w9).drew) HMO.out e.v)
          have HK10 := Lib.hid (fun (w' : World) (hf : Fr (rTB pt vT vF) w9.drew w') => And.intro (hf.cell ((Fr.refl [] w9).drew.cell c5 (by simp)) (fun hm => by have := HS9.out.kt _ hm; have := HS9.out.kp; dsimp only at *; omega)) (hf.cell ((Fr.refl [] w9).drew.cell y3 (by simp)) (fun hm => by have := HS9.out.kt _ hm; have := HS9.out.ky; dsimp only at *; omega)))
          go_wp2_with fail
          go_region_held3 (fun w' => w'.cell? ⟨pr, 5, none⟩ = some (ptr pt) ∧ w'.cell? ⟨yb, 3, none⟩ = some (.int .u64 e.v))
            (first
              | go_keep
              | (exact HK10.out _ hF10))
            (first
              | (go_at_call 55; refine HDel.out.mono ?_; rintro _ w10 ⟨rfl, vT10, vF10, hT10, hF10, hq10⟩))
          obtain ⟨cl10, hS10⟩ := HS9.out.tab hT10 ((Fr.refl _ w9).drew.trans' hF10) (fun q hq => (hq10 q hq).imp id (fun e => e))
          have HS10 := Lib.hid hS10
          clear hS10 hT10 hF10 hq10 HS9 HDel HK10 c5 y3
          have hM : (s.rem i).M = (Md.del s.M e.v).M := by rw [HRM.out.1, delIf_yes HBU.out, delIf_no HBV.out]
          have hst := HS10.out
          rw [← hM, show Lf = (s.rem i).L from HRM.out.2.1] at hst
          have HD := Lib.hid (Stg.done (s := s.rem i) hst Hok'.out HCN.out e)
          clear hst hM
          obtain ⟨g0, g1, g2, g3, g4, g5, g6⟩ := HS10.out.yy.lvAt
          have z := HS10.out.xx.frozen
          have t0 := HS10.out.xx.cell 0; have t1 := HS10.out.xx.cell 1; have t2 := HS10.out.xx.cell 2; have t3 := HS10.out.xx.cell 3; have t4 := HS10.out.xx.cell 4; have t5 := HS10.out.xx.cell 5; have t6 := HS10.out.xx.cell 6
          simp only [List.getElem?_cons_zero, List.getElem?_cons_succ, Nat.zero_add] at g0 g1 g2 g3 g4 g5 g6 t0 t1 t2 t3 t4 t5 t6
          have HX := Lib.hid (HS10.out.xx.put7 e)
          have hne : w.heap.size ≠ yb := by have := HS3.out.2.2; have := HS3.out.2.1; intro e; have h4 := HS10.out.kx; have h5 := HS10.out.ky; rw [e] at h4; omega
          go_wp2_with fail
          have r := HX.out.lvAt
          unfold LvAt Go.Proofs.YtbegdgnhpklceaaGreat.put7 at r
          simp only [Nat.zero_add] at r
          obtain ⟨r0, r1, r2, r3, r4, r5, r6⟩ := r
          exact bodyPost_ret (v := .tuple #[lvA e, .int .i64 0]) (by simp [results, Tryz.results14, go_sem, r0, r1, r2, r3, r4, r5, r6]) rfl ⟨rfl, HD.out⟩
      | false =>
        have c5 := HS6.out.hd.cell 5
        have y2 := HS6.out.yy.lvAt.2.2.1
        simp only [List.getElem?_cons_zero, List.getElem?_cons_succ, Nat.zero_add] at c5 y2
        have HDel := Lib.hid (rdel_w (HS6.out.tb.fr0 (Fr.refl [] w6).drew) HMO.out e.u)
        have HK7 := Lib.hid (fun (w' : World) (hf : Fr (rTB pt vT vF) w6.drew w') => And.intro (hf.cell ((Fr.refl [] w6).drew.cell c5 (by simp)) (fun hm => by have := HS6.out.kt _ hm; have := HS6.out.kp; dsimp only at *; omega)) (hf.cell ((Fr.refl [] w6).drew.cell y2 (by simp)) (fun hm => by have := HS6.out.kt _ hm; have := HS6.out.ky; dsimp only at *; omega)))
        go_wp2_with fail
        go_region_held3 (fun w' => w'.cell? ⟨pr, 5, none⟩ = some (ptr pt) ∧ w'.cell? ⟨yb, 2, none⟩ = some (.int .u64 e.u))
          (first
            | go_keep
            | (exact HK7.out _ hF7))
          (first
            | (go_at_call 55; refine HDel.out.mono ?_; rintro _ w7 ⟨rfl, vT7, vF7, hT7, hF7, hq7⟩))
        obtain ⟨cl7, hS7⟩ := HS6.out.tab hT7 ((Fr.refl _ w6).drew.trans' hF7) (fun q hq => (hq7 q hq).imp id (fun e => e))
        have HS7 := Lib.hid hS7
        clear hS7 hT7 hF7 hq7 HS6 HDel HK7 c5 y2

        have y3 := HS7.out.yy.lvAt.2.2.2.1
        have c3 := HS7.out.hd.cell 3
        simp only [List.getElem?_cons_zero, List.getElem?_cons_succ, Nat.zero_add] at c3 y3
        have HIv := Lib.hid (rs_isv0 c3 HS7.out.row hLfl e.v)
        obtain ⟨bv, hbv⟩ : ∃ bv, bv = (Lf.any fun x => x.at e.v) := ⟨_, rfl⟩
        rw [← hbv] at HIv
        have HBV := Lib.hid hbv.symm; clear hbv
        go_wp2_with fail
        refine HIv.out.mono ?_
        rintro _ w9 ⟨rfl, hF9⟩
        have HS9 := Lib.hid (HS7.out.fr0 hF9)
        clear hF9 HS7 HIv c3 y3
        cases bv with
        | true =>
          have hM : (s.rem i).M = (Md.del s.M e.u).M := by rw [HRM.out.1, delIf_no HBU.out, delIf_yes HBV.out]
          have hst := HS9.out
          rw [← hM, show Lf = (s.rem i).L from HRM.out.2.1] at hst
          have HD := Lib.hid (Stg.done (s := s.rem i) hst Hok'.out HCN.out e)
          clear hst hM
          obtain ⟨g0, g1, g2, g3, g4, g5, g6⟩ := HS9.out.yy.lvAt
          have z := HS9.out.xx.frozen
          have t0 := HS9.out.xx.cell 0; have t1 := HS9.out.xx.cell 1; have t2 := HS9.out.xx.cell 2; have t3 := HS9.out.xx.cell 3; have t4 := HS9.out.xx.cell 4; have t5 := HS9.out.xx.cell 5; have t6 := HS9.out.xx.cell 6
          simp only [List.getElem?_cons_zero, List.getElem?_cons_succ, Nat.zero_add] at g0 g1 g2 g3 g4 g5 g6 t0 t1 t2 t3 t4 t5 t6
          have HX := Lib.hid (HS9.out.xx.put7 e)
          have hne : w.heap.size ≠ yb := by have := HS3.out.2.2; have := HS3.out.2.1; intro e; have h4 := HS9.out.kx; have h5 := HS9.out.ky; rw [e] at h4; omega
          go_wp2_with fail
          have r := HX.out.lvAt
          unfold LvAt Go.Proofs.YtbegdgnhpklceaaGreat.put7 at r
          simp only [Nat.zero_add] at r
          obtain ⟨r0, r1, r2, r3, r4, r5, r6⟩ := r
          exact bodyPost_ret (v := .tuple #[lvA e, .int .i64 0]) (by simp [results, Tryz.results14, go_sem, r0, r1, r2, r3, r4, r5, r6]) rfl ⟨rfl, HD.out⟩
        | false =>
          have c5 := HS9.out.hd.cell 5
          have y3 := HS9.out.yy.lvAt.2.2.2.1
          simp only [List.getElem?_cons_zero, List.getElem?_cons_succ, Nat.zero_add] at c5 y3
          have HDel := Lib.hid (rdel_w (HS9.out.tb.fr0 (Fr.refl [] w9).drew) (Md.ok_del HMO.out e.u) e.v)
          have HK10 := Lib.hid (fun (w' : World) (hf : Fr (rTB pt vT7 vF7) w9.drew w') => And.intro (hf.cell ((Fr.refl [] w9).drew.cell c5 (by simp)) (fun hm => by have := HS9.out.kt _ hm; have := HS9.out.kp; dsimp only at *; omega)) (hf.cell ((Fr.refl [] w9).drew.cell y3 (by simp)) (fun hm => by have := HS9.out.kt _ hm; have := HS9.out.ky; dsimp only at *; omega)))
          go_wp2_with fail
          go_region_held3 (fun w' => w'.cell? ⟨pr, 5, none⟩ = some (ptr pt) ∧ w'.cell? ⟨yb, 3, none⟩ = some (.int .u64 e.v))
            (first
              | go_keep
              | (exact HK10.out _ hF10))
            (first
              | (go_at_call 55; refine HDel.out.mono ?_; rintro _ w10 ⟨rfl, vT10, vF10, hT10, hF10, hq10⟩))
          obtain ⟨cl10, hS10⟩ := HS9.out.tab hT10 ((Fr.refl _ w9).drew.trans' hF10) (fun q hq => (hq10 q hq).imp id (fun e => e))
          have HS10 := Lib.hid hS10
          clear hS10 hT10 hF10 hq10 HS9 HDel HK10 c5 y3
          have hM : (s.rem i).M = (Md.del (Md.del s.M e.u).M e.v).M := by rw [HRM.out.1, delIf_no HBU.out, delIf_no HBV.out]
          have hst := HS10.out
          rw [← hM, show Lf = (s.rem i).L from HRM.out.2.1] at hst
          have HD := Lib.hid (Stg.done (s := s.rem i) hst Hok'.out HCN.out e)
          clear hst hM
          obtain ⟨g0, g1, g2, g3, g4, g5, g6⟩ := HS10.out.yy.lvAt
          have z := HS10.out.xx.frozen
          have t0 := HS10.out.xx.cell 0; have t1 := HS10.out.xx.cell 1; have t2 := HS10.out.xx.cell 2; have t3 := HS10.out.xx.cell 3; have t4 := HS10.out.xx.cell 4; have t5 := HS10.out.xx.cell 5; have t6 := HS10.out.xx.cell 6
          simp only [List.getElem?_cons_zero, List.getElem?_cons_succ, Nat.zero_add] at g0 g1 g2 g3 g4 g5 g6 t0 t1 t2 t3 t4 t5 t6
          have HX := Lib.hid (HS10.out.xx.put7 e)
          have hne : w.heap.size ≠ yb := by have := HS3.out.2.2; have := HS3.out.2.1; intro e; have h4 := HS10.out.kx; have h5 := HS10.out.ky; rw [e] at h4; omega
          go_wp2_with fail
          have r := HX.out.lvAt
          unfold LvAt Go.Proofs.YtbegdgnhpklceaaGreat.put7 at r
          simp only [Nat.zero_add] at r
          obtain ⟨r0, r1, r2, r3, r4, r5, r6⟩ := r
          exact bodyPost_ret (v := .tuple #[lvA e, .int .i64 0]) (by simp [results, Tryz.results14, go_sem, r0, r1, r2, r3, r4, r5, r6]) rfl ⟨rfl, HD.out⟩
end
end Go.Proofs.YtbegdgnhpklceaaGreat

namespace Go.Proofs.YtbegdgnhpklceaaGreat
open Go.RowKit

def updG {α : Type} (f : Nat → α) (i : Nat) (v : α) : Nat → α := fun k => if k = i then v else f k
theorem updG_eq {α : Type} (f : Nat → α) (i : Nat) (v : α) : updG f i v i = v := if_pos rfl
theorem updG_ne {α : Type} (f : Nat → α) {i k : Nat} (v : α) (h : k ≠ i) : updG f i v k = f k := if_neg h
/-- What an operation comes to: a value. -/
def stepUpon (P : Program) (K : Value → World → Prop) : Result Go.Next → Prop
  | .ok (.value u) w' => K u w'
  | .ok .skip w' => K undef w'
  | .ok (.enter f args) w' => Calls P f args w' (fun e w'' => ∃ v, e = .returned v ∧ K v w'')
  | _ => False
attribute [go_sem] stepUpon
theorem step_upon {P : Program} {o : Oper} {a : Act} {K : Value → World → Prop} {K' : Act → World → Prop} {Q' : Exit → Act → World → Prop} (h : ∀ v w', K v w' → K' (a.put o.dst v) w')
    {r : Result Go.Next} (h3 : stepUpon P K r) : o.upon P a K' Q' r := by
  cases r with
  | halt x w' => exact h3.elim
  | ok x w' =>
    cases x with
    | value u => exact h _ _ h3
    | skip => exact h _ _ h3
    | enter f args => exact Calls.mono h3 fun e w'' ⟨v, he, hw''⟩ => by subst he; exact h _ _ hw''
    | _ => exact h3.elim

section
variable {P : Program} {ops : Array Oper} {md : Region.Mode} {f : Nat → Value} {S S' : Nat → Bool} {a : Act}
def dstOf (ops : Array Oper) (k : Nat) : Option Tmp := (ops[k]?).bind (·.dst)
def putsF (ops : Array Oper) (f : Nat → Value) (S : Nat → Bool) (a : Act) : Nat → Act
  | 0 => a
  | k + 1 => if S k = true then (putsF ops f S a k).put (dstOf ops k) (f k) else putsF ops f S a k
theorem putsF_yes {k : Nat} (h : S k = true) : putsF ops f S a (k + 1) = (putsF ops f S a k).put (dstOf ops k) (f k) := by
  show (if S k = true then _ else _) = _
  rw [if_pos h]
/-- No two operations have the same place. -/
def uniqB (ops : Array Oper) : Bool := (List.range ops.size).all fun i => (List.range ops.size).all fun k => i == k || (match dstOf ops i with | some d => dstOf ops k != some d | none => true)
def depsOf (md : Region.Mode) (o : Oper) : List Nat := (o.after.toList.filter fun e => Region.binds md e).map (·.on)
/-- What an operation looks at is made by those that it waits for. -/
def looksB (md : Region.Mode) (ops : Array Oper) : Bool := (List.range ops.size).all fun i => match ops[i]? with
  | none => true
  | some o => (List.range ops.size).all fun k => (match dstOf ops k with | some d => !(o.looksAt ops).contains d || ((depsOf md o).contains k && decide (k < i)) | none => true)
theorem uniq_spec (h : uniqB ops = true) {i k : Nat} {d : Tmp} (hi : dstOf ops i = some d) (hk : dstOf ops k = some d) : i = k := by
  have lt : ∀ {j}, dstOf ops j = some d → j < ops.size := fun {j} hj => by
    unfold dstOf at hj
    cases ho : ops[j]? with
    | none => rw [ho] at hj; cases hj
    | some o => exact (Array.getElem?_eq_some_iff.1 ho).1
  have h1 := List.all_eq_true.1 (List.all_eq_true.1 h i (by simpa using lt hi)) k (by simpa using lt hk)
  rw [hi] at h1
  simp only [hk, Bool.or_eq_true, beq_iff_eq] at h1
  rcases h1 with e | e
  · exact e
  · simp at e
theorem putsF_congr {f f' : Nat → Value} : ∀ {n : Nat}, (∀ k, k < n → S k = S' k ∧ f k = f' k) → putsF ops f S a n = putsF ops f' S' a n
  | 0, _ => rfl
  | n + 1, h => by
    unfold putsF
    rw [putsF_congr (n := n) (fun k hk => h k (by omega)), (h n (by omega)).1, (h n (by omega)).2]
theorem putsF_size : ∀ n, (putsF ops f S a n).tmps.size = a.tmps.size
  | 0 => rfl
  | n + 1 => by
    unfold putsF
    split
    · cases dstOf ops n <;> simp [Act.put, putsF_size n]
    · exact putsF_size n
theorem putsF_none {d : Tmp} : ∀ {n : Nat}, (∀ k, k < n → S k = true → dstOf ops k ≠ some d) → (putsF ops f S a n).tmps[d]? = a.tmps[d]?
  | 0, _ => rfl
  | n + 1, h => by
    have ih := putsF_none (n := n) (fun k hk => h k (by omega))
    unfold putsF
    split
    · rename_i hs
      have hne := h n (by omega) hs
      cases hd : dstOf ops n with
      | none => exact ih
      | some e =>
        rw [hd] at hne
        have : e ≠ d := fun h => hne (by rw [h])
        simp only [Act.put]
        rw [Array.getElem?_setIfInBounds_ne this]; exact ih
    · exact ih
theorem putsF_some (hu : uniqB ops = true) {d : Tmp} {k0 : Nat} (hd : dstOf ops k0 = some d) (hs : S k0 = true) : ∀ {n : Nat}, k0 < n → (putsF ops f S a n).tmps[d]? = if d < a.tmps.size then some (f k0) else none
  | 0, h => by omega
  | n + 1, h => by
    by_cases e : k0 = n
    · subst e
      unfold putsF
      rw [if_pos hs, hd]
      simp only [Act.put]
      by_cases hlt : d < a.tmps.size
      · rw [if_pos hlt, Array.getElem?_setIfInBounds_self_of_lt (by rw [putsF_size]; exact hlt)]
      · rw [if_neg hlt]
        exact Array.getElem?_eq_none (by rw [Array.size_setIfInBounds, putsF_size]; exact Nat.le_of_not_lt hlt)
    · have ih := putsF_some hu hd hs (n := n) (by omega)
      unfold putsF
      split
      · cases hn : dstOf ops n with
        | none => exact ih
        | some e' =>
          have : e' ≠ d := fun h => e (uniq_spec hu hd (by rw [hn, h]))
          simp only [Act.put]
          rw [Array.getElem?_setIfInBounds_ne this]; exact ih
      · exact ih
theorem putsF_get (hu : uniqB ops = true) {d : Tmp} {n m : Nat} (h : ∀ k, dstOf ops k = some d → ((k < n ∧ S k = true) ↔ (k < m ∧ S' k = true))) : (putsF ops f S a n).tmps[d]? = (putsF ops f S' a m).tmps[d]? := by
  by_cases hx : ∃ k, dstOf ops k = some d ∧ k < n ∧ S k = true
  · obtain ⟨k, h1, h2, h3⟩ := hx
    have h4 := (h k h1).1 ⟨h2, h3⟩
    rw [putsF_some hu h1 h3 h2, putsF_some hu h1 h4.2 h4.1]
  · rw [putsF_none (fun k hk hs hd => hx ⟨k, hd, hk, hs⟩), putsF_none (fun k hk hs hd => hx ⟨k, hd, (h k hd).2 ⟨hk, hs⟩⟩)]
theorem act_eval_congr {a a' : Act} {x : Operand} (hp : ∀ y, (∀ t, y ≠ .tmp t) → a.eval y = a'.eval y) (h : ∀ t, x = .tmp t → a.tmps[t]? = a'.tmps[t]?) : a.eval x = a'.eval x := by
  cases x with
  | tmp t => have := h t rfl; simp [Act.eval, this]
  | _ => exact hp _ (by intro t; simp)
theorem putsF_rest (y : Operand) (hy : ∀ t, y ≠ .tmp t) : ∀ n, (putsF ops f S a n).eval y = a.eval y
  | 0 => rfl
  | n + 1 => by
    unfold putsF
    split
    · rw [Act.eval_put (fun d _ => hy d)]; exact putsF_rest y hy n
    · exact putsF_rest y hy n
theorem puts_op (hu : uniqB ops = true) {o : Oper} (hs : ∀ cs b, o.op ≠ .select cs b) {n m : Nat} (h : ∀ k d, dstOf ops k = some d → d ∈ o.looksAt ops → ((k < n ∧ S k = true) ↔ (k < m ∧ S' k = true))) :
    execOp (putsF ops f S a n).eval o = execOp (putsF ops f S' a m).eval o ∧ Region.wanted o (yielded ops (putsF ops f S a n).tmps) = Region.wanted o (yielded ops (putsF ops f S' a m).tmps) := by
  refine ⟨execOp_congr o hs fun x hx => act_eval_congr (fun y hy => by rw [putsF_rest y hy, putsF_rest y hy]) fun t ht => ?_, ?_⟩
  · subst ht
    exact putsF_get hu fun k hk => h k t hk (List.mem_append_left _ (List.mem_filterMap.2 ⟨.tmp t, by simpa using hx, rfl⟩))
  · unfold Region.wanted
    cases hg : o.guard with
    | none => rfl
    | some gw =>
      obtain ⟨g, want⟩ := gw
      have hy : yielded ops (putsF ops f S a n).tmps g = yielded ops (putsF ops f S' a m).tmps g := by
        unfold yielded
        cases ht : (ops[g]?).bind (·.dst) with
        | none => rfl
        | some t =>
          have := putsF_get (f := f) (a := a) hu (d := t) fun k hk => h k t hk (by simp [Oper.looksAt, hg, ht])
          simp only [Option.bind_some, this]
      simp only [hy]
theorem puts_put (hu : uniqB ops = true) {i : Nat} (v : Value) (hL : S i = false) : ∀ n, i < n → (putsF ops f S a n).put (dstOf ops i) v = putsF ops (updG f i v) (updG S i true) a n
  | 0, h => by omega
  | n + 1, h => by
    by_cases e : i = n
    · subst e
      conv => rhs; unfold putsF
      rw [if_pos (updG_eq ..), updG_eq]
      conv => lhs; unfold putsF
      rw [if_neg (by rw [hL]; simp)]
      rw [putsF_congr (S' := updG S i true) (f' := updG f i v) (fun k hk => ⟨(updG_ne _ _ (by omega)).symm, (updG_ne _ _ (by omega)).symm⟩)]
    · have ih := puts_put hu v hL n (by omega)
      conv => rhs; unfold putsF
      rw [updG_ne _ _ (fun h => e h.symm), updG_ne _ _ (fun h => e h.symm), ← ih]
      conv => lhs; unfold putsF
      split
      · refine Act.put_comm _ _ _ fun d hd hd' => ?_
        exact e (uniq_spec hu hd' hd)
      · rfl
end

def invB (md : Region.Mode) (ops : Array Oper) : Bool := Region.noSelect ops && edgesBack md ops && uniqB ops && looksB md ops
/-- One operation. -/
def stepI (P : Program) (ops : Array Oper) (md : Region.Mode) (I : (Nat → Value) → (Nat → Bool) → World → Prop) (f : Nat → Value) (k : Nat) (o : Oper) (a : Act) : Prop :=
  ∀ L w, (∀ j ∈ depsOf md o, L j = true) → L k = false → I f L w →
    if Region.wanted o (yielded ops a.tmps) = true then stepUpon P (fun v w' => I (updG f k v) (updG L k true) w') ((execOp a.eval o).run P w) else I (updG f k undef) (updG L k true) w
def StepsI (P : Program) (ops : Array Oper) (md : Region.Mode) (I : (Nat → Value) → (Nat → Bool) → World → Prop) (f : Nat → Value) : Nat → List Oper → Act → Prop
  | _, [], _ => True
  | k, o :: r, a => stepI P ops md I f k o a ∧ StepsI P ops md I f (k + 1) r (a.put o.dst (f k))
def endA (f : Nat → Value) : Nat → List Oper → Act → Act
  | _, [], a => a
  | k, o :: r, a => endA f (k + 1) r (a.put o.dst (f k))

section
variable {P : Program} {md : Region.Mode} {I : (Nat → Value) → (Nat → Bool) → World → Prop}
theorem puts_text {l : List Oper} (f : Nat → Value) (a : Act) : ∀ (r : List Oper) (k : Nat), l.drop k = r → endA f k r (putsF l.toArray f (fun _ => true) a k) = putsF l.toArray f (fun _ => true) a l.length
  | [], k, h => by
    have hk : l.length ≤ k := List.drop_eq_nil_iff.1 h
    show putsF l.toArray f (fun _ => true) a k = _
    have : ∀ m, putsF l.toArray f (fun _ => true) a (l.length + m) = putsF l.toArray f (fun _ => true) a l.length := by
      intro m
      induction m with
      | zero => rfl
      | succ m ih =>
        have hd : dstOf l.toArray (l.length + m) = none := by simp [dstOf]
        rw [show l.length + (m + 1) = l.length + m + 1 by omega, putsF_yes rfl, ih, hd]
        rfl
    obtain ⟨m, rfl⟩ : ∃ m, k = l.length + m := ⟨k - l.length, by omega⟩
    exact this m
  | o :: r, k, h => by
    have hk : l[k]? = some o := by have := congrArg (fun r => r[0]?) h; simpa using this
    have hr : l.drop (k + 1) = r := by rw [← List.tail_drop, h]; rfl
    have := puts_text f a r (k + 1) hr
    rw [← this]
    show endA f (k + 1) r ((putsF l.toArray f (fun _ => true) a k).put o.dst (f k)) = _
    congr 1
    rw [putsF_yes rfl]
    congr 1
    simp [dstOf, hk]
theorem steps_at {l : List Oper} {f : Nat → Value} {a : Act} : ∀ (r : List Oper) (k : Nat), l.drop k = r → StepsI P l.toArray md I f k r (putsF l.toArray f (fun _ => true) a k) → ∀ i o, k ≤ i → l[i]? = some o → stepI P l.toArray md I f i o (putsF l.toArray f (fun _ => true) a i)
  | [], k, h, _, i, o, hi, ho => by
    have hk : l.length ≤ k := List.drop_eq_nil_iff.1 h
    have := (List.getElem?_eq_some_iff.1 ho).1
    omega
  | o' :: r, k, h, hS, i, o, hi, ho => by
    have hk : l[k]? = some o' := by have := congrArg (fun r => r[0]?) h; simpa using this
    have hr : l.drop (k + 1) = r := by rw [← List.tail_drop, h]; rfl
    by_cases e : i = k
    · subst e
      have : o' = o := Option.some.inj (hk.symm.trans ho)
      subst this
      exact hS.1
    · refine steps_at r (k + 1) hr ?_ i o (by omega) ho
      have h2 := hS.2
      have e2 : putsF l.toArray f (fun _ => true) a (k + 1) = (putsF l.toArray f (fun _ => true) a k).put o'.dst (f k) := by
        rw [putsF_yes rfl]
        congr 1
        simp [dstOf, hk]
      rw [e2]; exact h2

theorem any_of_inv {l : List Oper} {a : Act} {Q : Exit → Act → World → Prop} (hB : invB md l.toArray = true) (hstep : ∀ f i o, l[i]? = some o → stepI P l.toArray md I f i o (putsF l.toArray f (fun _ => true) a i))
    (hend : ∀ f L w', (∀ k, k < l.length → L k = true) → I f L w' → Q .normal (putsF l.toArray f (fun _ => true) a l.length) w') : ∀ (fuel : Nat) (listed : Array Bool) (f : Nat → Value) (w : World), listed.size = l.length → listed.toList.count false ≤ fuel →
    Shut md l.toArray listed → I f (fun k => listed.getD k false) w → wpAny P md l.toArray Q fuel listed (putsF l.toArray f (fun k => listed.getD k false) a l.length) w := by
  simp only [invB, Bool.and_eq_true] at hB
  obtain ⟨⟨⟨hsel, heb⟩, hu⟩, hlk⟩ := hB
  have hdone : ∀ (listed : Array Bool) (f : Nat → Value) (w : World), listed.size = l.length → Region.ready md l.toArray listed = [] → I f (fun k => listed.getD k false) w → Q .normal (putsF l.toArray f (fun k => listed.getD k false) a l.length) w := by
    intro listed f w hs h0 hI
    have hall := ready_nil (by simpa using hs) heb h0
    rw [putsF_congr (S' := fun _ => true) (f' := f) (fun k hk => ⟨hall k (by simpa using hk), rfl⟩)]
    exact hend f _ w (fun k hk => hall k (by simpa using hk)) hI
  intro fuel
  induction fuel with
  | zero =>
    intro listed f w hs hc _ hI
    have h0 : Region.ready md l.toArray listed = [] := by
      rw [List.eq_nil_iff_forall_not_mem]
      intro i hi
      obtain ⟨hun, oi, hoi, _⟩ := mem_ready.1 hi
      have hil : i < listed.size := by have := (Array.getElem?_eq_some_iff.1 hoi).1; simp at this; omega
      have hmem : false ∈ listed.toList := by
        rw [← show listed[i] = false by simpa [hil] using hun]
        simp
      have := List.count_pos_iff.2 hmem
      omega
    exact ⟨h0, hdone listed f w hs h0 hI⟩
  | succ fuel ih =>
    intro listed f w hs hc hsh hI
    refine ⟨fun h0 => hdone listed f w hs h0 hI, fun i hi => ?_⟩
    obtain ⟨hun, oi, hoi, hdep⟩ := mem_ready.1 hi
    have hil : i < l.length := by have := (Array.getElem?_eq_some_iff.1 hoi).1; simpa using this
    have hl0 : listed.getD i false = false := by
      simp [hs, hil] at hun ⊢; exact hun
    have hs' : (listed.setIfInBounds i true).size = l.length := by simp [hs]
    have hLu : (fun k => (listed.setIfInBounds i true).getD k false) = updG (fun k => listed.getD k false) i true := by
      funext k
      by_cases e : k = i
      · subst e; rw [updG_eq]; simp [hs, hil]
      · rw [updG_ne _ _ e, getD_set_ne false (fun h => e h.symm)]
    have hc' : (listed.setIfInBounds i true).toList.count false ≤ fuel := by
      have hmem : listed.toList[i]? = some false := by
        simp only [Array.getElem?_toList]
        simp [hs, hil] at hun
        simp [hs, hil, hun]
      have : (listed.setIfInBounds i true).toList = listed.toList.set i true := by simp
      rw [this]
      have h1 := List.count_set (l := listed.toList) (i := i) (a := true) (b := false) (by simpa [hs] using hil)
      have h2 : listed.toList[i]'(by simpa [hs] using hil) = false := (List.getElem?_eq_some_iff.1 hmem).2
      have e1 : (if ((false == false : Bool) = true) then (1 : Nat) else 0) = 1 := rfl
      have e2 : (if ((true == false : Bool) = true) then (1 : Nat) else 0) = 0 := rfl
      rw [h1, h2, e1, e2]
      omega
    have hdeps : ∀ j ∈ depsOf md oi, listed.getD j false = true := by
      intro j hj
      simp only [depsOf, List.mem_map, List.mem_filter] at hj
      obtain ⟨e, ⟨he, hb⟩, rfl⟩ := hj
      exact hdep e (by simpa using he) hb
    have hsame := puts_op (f := f) (a := a) hu (o := oi) (fun cs b => Region.noSelect_spec hsel i oi cs b hoi) (S := fun k => listed.getD k false) (S' := fun _ => true) (n := l.length) (m := i) (by
      intro k d hk hd
      have hkl : k < l.toArray.size := by
        unfold dstOf at hk
        cases ho : l.toArray[k]? with
        | none => rw [ho] at hk; cases hk
        | some o => exact (Array.getElem?_eq_some_iff.1 ho).1
      have h1 := List.all_eq_true.1 hlk i (by simpa using hil)
      simp only [hoi] at h1
      have h2 := List.all_eq_true.1 h1 k (by simpa using hkl)
      simp only [hk, Bool.or_eq_true, Bool.not_eq_true', Bool.and_eq_true, decide_eq_true_eq, List.contains_iff_mem] at h2
      rcases h2 with h2 | h2
      · rw [← Bool.not_eq_true, List.contains_iff_mem] at h2; exact absurd hd h2
      · exact ⟨fun _ => ⟨h2.2, rfl⟩, fun _ => ⟨by simpa using hkl, hdeps k h2.1⟩⟩)
    have hst := hstep f i oi (by simpa using hoi) (fun k => listed.getD k false) w hdeps hl0 hI
    have hdst : dstOf l.toArray i = oi.dst := by simp only [dstOf, hoi, Option.bind_some]
    have hnext : ∀ v w', I (updG f i v) (updG (fun k => listed.getD k false) i true) w' → wpAny P md l.toArray Q fuel (listed.setIfInBounds i true) ((putsF l.toArray f (fun k => listed.getD k false) a l.length).put oi.dst v) w' := by
      intro v w' hI'
      rw [← hdst, puts_put hu v hl0 l.length hil]
      have := ih (listed.setIfInBounds i true) (updG f i v) w' hs' hc' (hsh.set hi) (by rw [hLu]; exact hI')
      rw [hLu] at this
      exact this
    unfold wpOp
    simp only [hoi]
    rw [hsame.2]
    by_cases hw : Region.wanted oi (yielded l.toArray (putsF l.toArray f (fun _ => true) a i).tmps) = true
    · rw [if_pos hw] at hst
      rw [if_pos hw]
      left
      unfold Oper.wp
      rw [hsame.1]
      exact step_upon hnext hst
    · rw [if_neg hw] at hst
      rw [if_neg hw]
      exact hnext _ _ hst
/-- The law. -/
theorem region_inv {id : Nat} {Q : Exit → Act → World → Prop} {a : Act} {w : World} {l : List Oper} (I : (Nat → Value) → (Nat → Bool) → World → Prop) (hm : P.follows .mixedOrders = true) (hB : invB .any l.toArray = true)
    (h0 : I (fun _ => undef) (fun _ => false) w.drew) (hstep : ∀ f, StepsI P l.toArray .any I f 0 l a)
    (hend : ∀ f L w', (∀ k, k < l.length → L k = true) → I f L w' → Q .normal (endA f 0 l a) w') : (Code.region id l.toArray true).wp P Q a w := by
  have hz : (fun k => (Array.replicate l.toArray.size false).getD k false) = fun _ => false := by funext k; exact rep_false _ _
  refine wp_region_any hm ?_
  have := any_of_inv (P := P) (md := .any) (I := I) (a := a) (Q := Q) (l := l) hB (fun f i o ho => steps_at l 0 rfl (hstep f) i o (Nat.zero_le _) ho)
    (fun f L w' hL hI => by rw [← puts_text f a l 0 rfl]; exact hend f L w' hL hI) l.toArray.size (Array.replicate l.toArray.size false) (fun _ => undef) w.drew (by simp) (by simp) (by intro j oj _ hl; rw [rep_false] at hl; cases hl) (by rw [hz]; exact h0)
  rw [hz] at this
  have e : putsF l.toArray (fun _ => undef) (fun _ => false) a l.length = a := by
    have : ∀ n, putsF l.toArray (fun _ => undef) (fun _ => false) a n = a := by
      intro n
      induction n with
      | zero => rfl
      | succ n ih => unfold putsF; rw [if_neg (by simp)]; exact ih
    exact this _
  rw [e] at this
  exact this
/-- No operation has this place. -/
def freeB (ops : Array Oper) (d : Tmp) : Bool := (List.range ops.size).all fun j => dstOf ops j != some d
/-- Each operation, in any state that holds what the ones ahead of it have made. -/
def StepsB (P : Program) (ops : Array Oper) (md : Region.Mode) (I : (Nat → Value) → (Nat → Bool) → World → Prop) (f : Nat → Value) (a : Act) : Nat → List Oper → Prop
  | _, [] => True
  | k, o :: r => (∀ b : Act, b.tmps.size = a.tmps.size → (∀ j d, j < k → dstOf ops j = some d → d < a.tmps.size → b.tmps[d]? = some (f j)) → (∀ d, freeB ops d = true → b.tmps[d]? = a.tmps[d]?) → stepI P ops md I f k o b) ∧ StepsB P ops md I f a (k + 1) r
theorem stepsB_at {l : List Oper} {f : Nat → Value} {a : Act} : ∀ (r : List Oper) (k : Nat), l.drop k = r → StepsB P l.toArray md I f a k r → ∀ i o, k ≤ i → l[i]? = some o →
    ∀ b : Act, b.tmps.size = a.tmps.size → (∀ j d, j < i → dstOf l.toArray j = some d → d < a.tmps.size → b.tmps[d]? = some (f j)) → (∀ d, freeB l.toArray d = true → b.tmps[d]? = a.tmps[d]?) → stepI P l.toArray md I f i o b
  | [], k, h, _, i, o, hi, ho => by
    have hk : l.length ≤ k := List.drop_eq_nil_iff.1 h
    have := (List.getElem?_eq_some_iff.1 ho).1
    omega
  | o' :: r, k, h, hS, i, o, hi, ho => by
    have hk : l[k]? = some o' := by have := congrArg (fun r => r[0]?) h; simpa using this
    have hr : l.drop (k + 1) = r := by rw [← List.tail_drop, h]; rfl
    by_cases e : i = k
    · subst e
      have : o' = o := Option.some.inj (hk.symm.trans ho)
      subst this
      exact hS.1
    · exact stepsB_at r (k + 1) hr hS.2 i o (by omega) ho
/-- The law, each step in a state of its own. -/
theorem region_invB {id : Nat} {Q : Exit → Act → World → Prop} {a : Act} {w : World} {l : List Oper} (I : (Nat → Value) → (Nat → Bool) → World → Prop) (hm : P.follows .mixedOrders = true) (hB : invB .any l.toArray = true)
    (h0 : I (fun _ => undef) (fun _ => false) w.drew) (hstep : ∀ f, StepsB P l.toArray .any I f a 0 l)
    (hend : ∀ f L w', (∀ k, k < l.length → L k = true) → I f L w' → Q .normal (endA f 0 l a) w') : (Code.region id l.toArray true).wp P Q a w := by
  have hz : (fun k => (Array.replicate l.toArray.size false).getD k false) = fun _ => false := by funext k; exact rep_false _ _
  refine wp_region_any hm ?_
  have hu : uniqB l.toArray = true := by simp only [invB, Bool.and_eq_true] at hB; exact hB.1.2
  have := any_of_inv (P := P) (md := .any) (I := I) (a := a) (Q := Q) (l := l) hB (fun f i o ho => stepsB_at l 0 rfl (hstep f) i o (Nat.zero_le _) ho _ (putsF_size _)
      (fun j d hj hd hlt => by rw [putsF_some hu hd rfl hj, if_pos hlt])
      (fun d hd => putsF_none fun j hj _ e => by
        have hjl : j < l.toArray.size := by
          have := (List.getElem?_eq_some_iff.1 ho).1
          simp; omega
        have h1 := List.all_eq_true.1 hd j (by simpa using hjl)
        rw [e] at h1; simp at h1))
    (fun f L w' hL hI => by rw [← puts_text f a l 0 rfl]; exact hend f L w' hL hI) l.toArray.size (Array.replicate l.toArray.size false) (fun _ => undef) w.drew (by simp) (by simp) (by intro j oj _ hl; rw [rep_false] at hl; cases hl) (by rw [hz]; exact h0)
  rw [hz] at this
  have e : putsF l.toArray (fun _ => undef) (fun _ => false) a l.length = a := by
    have : ∀ n, putsF l.toArray (fun _ => undef) (fun _ => false) a n = a := by
      intro n
      induction n with
      | zero => rfl
      | succ n ih => unfold putsF; rw [if_neg (by simp)]; exact ih
    exact this _
  rw [e] at this
  exact this
theorem stepI_plain {ops : Array Oper} {f : Nat → Value} {k : Nat} {o : Oper} {a : Act} (hg : o.guard = none)
    (h : ∀ L w, (∀ j ∈ depsOf md o, L j = true) → L k = false → I f L w → stepUpon P (fun v w' => I (updG f k v) (updG L k true) w') ((execOp a.eval o).run P w)) : stepI P ops md I f k o a := fun L w hd hn hI => by
  rw [if_pos (by simp [Region.wanted, hg])]
  exact h L w hd hn hI
theorem stepI_on {ops : Array Oper} {f : Nat → Value} {k : Nat} {o : Oper} {a : Act}
    (h : ∀ L w, (∀ j ∈ depsOf md o, L j = true) → L k = false → I f L w → Region.wanted o (yielded ops a.tmps) = true ∧ stepUpon P (fun v w' => I (updG f k v) (updG L k true) w') ((execOp a.eval o).run P w)) : stepI P ops md I f k o a := fun L w hd hn hI => by
  rw [if_pos (h L w hd hn hI).1]
  exact (h L w hd hn hI).2
end
end Go.Proofs.YtbegdgnhpklceaaGreat
