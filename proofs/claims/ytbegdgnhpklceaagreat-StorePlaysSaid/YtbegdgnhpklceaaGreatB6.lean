/- A map from integers whose elements are values of one shape, in memory. -/
import Derived.Test.YtbegdgnhpklceaaGreatB5
import Derived.Test.YtbegdgnhpklceaaGreatB4
import Derived.Maps.OwnOps
import Derived.Maps.OwnSet
import Derived.Test.YtbegdgnhpklceaaGreatB1
set_option linter.unusedSimpArgs false
set_option linter.unusedVariables false
/- The document's table: Del. -/
namespace Go.Proofs.YtbegdgnhpklceaaGreat
open Go.RowKit
set_option maxRecDepth 10000
set_option maxHeartbeats 800000

/-- The first i of a list without number k. -/
def woK (L : List (Nat × Nat)) (k i : Nat) : List (Nat × Nat) := (L.take i).eraseIdx k
section
variable {L : List (Nat × Nat)}
theorem woK_zero (k : Nat) : woK L k 0 = [] := by simp [woK]
theorem woK_len (k i : Nat) : (woK L k i).length ≤ i := by
  unfold woK
  rw [List.length_eraseIdx]
  simp only [List.length_take]
  split <;> omega
theorem woK_ne {k i : Nat} (hi : i < L.length) (hne : i ≠ k) : woK L k (i + 1) = woK L k i ++ [L[i]] := by
  unfold woK
  have e : L.take (i + 1) = L.take i ++ [L[i]] := by rw [List.take_add_one, List.getElem?_eq_getElem hi]; rfl
  have hl : (L.take i).length = i := by simp; omega
  rw [e]
  by_cases h : k < i
  · rw [List.eraseIdx_append_of_lt_length (by omega)]
  · rw [List.eraseIdx_of_length_le (by simp; omega), List.eraseIdx_of_length_le (by simp; omega)]
theorem woK_eq {k : Nat} (hk : k < L.length) : woK L k (k + 1) = woK L k k := by
  unfold woK
  have e : L.take (k + 1) = L.take k ++ [L[k]] := by rw [List.take_add_one, List.getElem?_eq_getElem hk]; rfl
  have hl : (L.take k).length = k := by simp; omega
  rw [e, List.eraseIdx_append_of_length_le (by omega), hl, List.eraseIdx_of_length_le (l := L.take k) (by omega)]
  simp
theorem woK_all (k : Nat) : woK L k L.length = L.eraseIdx k := by simp [woK]
theorem filter_erase (hnd : (L.map (·.1)).Nodup) {k id : Nat} (hk : k < L.length) (he : L[k].1 = id) : L.filter (fun x => x.1 != id) = L.eraseIdx k := by
  induction L generalizing k with
  | nil => simp at hk
  | cons a r ih =>
    simp only [List.map_cons, List.nodup_cons] at hnd
    cases k with
    | zero =>
      simp only [List.getElem_cons_zero] at he
      subst he
      have : r.filter (fun x => x.1 != a.1) = r := List.filter_eq_self.2 (fun x hx => by
        simp only [bne_iff_ne]; intro e; exact hnd.1 (List.mem_map.2 ⟨x, hx, e⟩))
      rw [List.filter_cons_of_neg (by simp), this]; rfl
    | succ k =>
      simp only [List.getElem_cons_succ] at he
      have hne : a.1 ≠ id := by
        rintro rfl; exact hnd.1 (List.mem_map.2 ⟨_, List.getElem_mem (by simpa using hk), he⟩)
      rw [List.filter_cons_of_pos (by simpa using hne), ih hnd.2 (by simpa using hk) he]; rfl
end

section
variable {w w' : World} {pr : Nat} {vL vF : Value} {M : Md}

theorem RTab.addF (h : RTab w pr vL vF M) {w4 : World} {g' cap' i : Nat} (box : Obj)
    (hown : w4.ownsRow 0 3 1 (.slice (some ⟨g', 0, none⟩) (M.free.length + 1) cap') (M.free.length + 1) (encN M.free.reverse ++ [.int .i64 i]))
    (hgrow : (w.alloc box).grownBy w4 vF.ownBlock) (hg : vF.ownBlock = some g' ∨ (w.alloc box).heap.size ≤ g') :
    RTab (w4.setCell ⟨pr, 3, none⟩ (.slice (some ⟨g', 0, none⟩) (M.free.length + 1) cap')) pr vL (.slice (some ⟨g', 0, none⟩) (M.free.length + 1) cap') { M with free := i :: M.free } ∧
      Fr (rTB pr vL vF) w (w4.setCell ⟨pr, 3, none⟩ (.slice (some ⟨g', 0, none⟩) (M.free.length + 1) cap')) ∧ ∀ q ∈ rTB pr vL (.slice (some ⟨g', 0, none⟩) (M.free.length + 1) cap'), q ∈ rTB pr vL vF ∨ w.heap.size ≤ q := by
  have hlp := h.hd.lt
  simp only [World.size_alloc] at hg
  have hF4 : Fr vF.ownBlock.toList w w4 := ((Fr.refl _ _).alloc _).grown hgrow (fun q e => .inl (by simp [e]))
  have hd4 : Blk w4 pr 115 [.bool true, .int .i64 M.slots, vL, vF, .int .i64 M.given] := hF4.blk h.hd (fun hm => h.apF (by simpa using hm))
  have hg' : g' ≠ pr := by
    rintro rfl
    rcases hg with e | e
    · exact h.apF e
    · omega
  refine ⟨⟨hd4.set 3 _, ?_, ?_, h.apL, ?_, ?_⟩, ?_, ?_⟩
  · exact ownsRow_other (ownsRow_same h.items (fun q hq => hF4.keep q (h.items.lt q hq).2 (fun hm => h.apLF q hq (by simpa using hm)))) _ _ h.apL
  · have e : encN (i :: M.free).reverse = encN M.free.reverse ++ [.int .i64 i] := by simp [encN]
    simp only [List.length_cons, e]
    exact ownsRow_other hown _ _ (by simpa [Value.ownBlock] using hg')
  · simpa [Value.ownBlock] using hg'
  · intro q hq e
    simp only [Value.ownBlock, Option.some.injEq] at e
    subst e
    rcases hg with hh | hh
    · exact h.apLF _ hq hh
    · have := (h.items.lt _ hq).2; omega
  · refine (hF4.mono (fun q hq => .inl ?_)).setCell _ _ (.inl (by simp [rTB]))
    simp only [rTB, List.mem_cons, List.mem_append]; exact .inr (.inr hq)
  · intro q hq
    have e1 : (Value.slice (some ⟨g', 0, none⟩) (M.free.length + 1) cap').ownBlock = some g' := rfl
    simp only [rTB, e1, Option.toList_some, List.mem_append, List.mem_cons, List.not_mem_nil, or_false] at hq ⊢
    rcases hq with rfl | hq | rfl
    · exact .inl (.inl rfl)
    · exact .inl (.inr (.inl hq))
    · rcases hg with e | e
      · exact .inl (.inr (.inr (by rw [e]; simp)))
      · exact .inr (by omega)

theorem rdel_w (h : RTab w pr vL vF M) (hok : M.Ok) (id : Nat) :
    Calls Tryz.prog 55 #[ptr pr, .int .u64 id] w fun e w' => e = .returned (.int .i64 (M.del id).err) ∧
      ∃ vL' vF', RTab w' pr vL' vF' (M.del id).M ∧ Fr (rTB pr vL vF) w w' ∧ ∀ q ∈ rTB pr vL' vF', q ∈ rTB pr vL vF ∨ w.heap.size ≤ q := by
  have hcnt := hok.cnt
  have hb := hok.ar.hb
  have hs := hok.ar.hs
  simp only [Md.ar] at hb hs
  have HV := Lib.hid (rvalid_w h)
  have HF := Lib.hid (rfind_w h (by omega) id)
  have Hids := Lib.hid hok.ids
  obtain ⟨a2, cap2, rfl⟩ := h.slL
  obtain ⟨a3, cap3, rfl⟩ := h.slF
  clear hok
  have HR := Lib.hid h; clear h
  generalize hP : M.del id = P at *
  have HP := Lib.hid hP; clear hP
  go_enter Tryz.func55, Tryz.ntmps55
  go_wp2_with fail
  refine HV.out.mono ?_
  rintro _ w ⟨rfl, rfl⟩
  go_wp2_with fail
  refine HF.out.mono ?_
  rintro _ w ⟨rfl, hr⟩
  clear HF HV
  have c2 := HR.out.hd.cell 2
  have c3 := HR.out.hd.cell 3
  have f3 := HR.out.hd.frozen 3
  simp only [List.getElem?_cons_zero, List.getElem?_cons_succ] at c2 c3
  rcases hr with ⟨rfl, hn⟩ | ⟨k, hk, rfl, he⟩
  · have hp : P = ⟨5, M⟩ := by rw [← HP.out]; unfold Md.del; rw [hn]
    have Hp := Lib.hid hp; clear hp
    have t2 : decide ((-1 : Int) < 0) = true := by decide
    clear hn
    go_wp2
    go_ret
    rw [Hp.out]
    exact ⟨rfl, _, _, HR.out, Fr.refl _ _, fun q hq => .inl hq⟩
  · have hf := Md.mem_find Hids.out (show (id, M.L[k].2) ∈ M.L by rw [← he]; exact List.getElem_mem hk)
    have hp : P = ⟨0, { M with L := M.L.eraseIdx k, free := M.L[k].2 :: M.free }⟩ := by
      rw [← HP.out]; unfold Md.del; rw [hf]; simp only [Md.rem, filter_erase Hids.out hk he]
    have Hp := Lib.hid hp; clear hp hf he Hids HP
    have hk0 : decide ((k : Int) < 0) = false := decide_eq_false (by omega)
    obtain ⟨b, cap, e, hb, q0, q1⟩ := item_at HR.out.items hk
    simp only [Value.slice.injEq, true_and] at e
    obtain ⟨rfl, rfl⟩ := e
    have hj1 : (k : Int) < M.L.length := by omega
    have hj0 : (0 : Int) ≤ k := by omega
    clear q0
    generalize M.L[k].2 = x at *
    have e3 : (w.alloc (.cells #[.int .i64 (x : Int)] 3)).cell? ⟨pr, 3, none⟩ = some (.slice a3 M.free.length cap3) := ((Fr.refl [] w).alloc _).cell c3 (by simp)
    have hfl : M.free.length ≤ 65536 := by omega
    have hLl : M.L.length ≤ 65536 := by omega
    clear hcnt
    go_wp2
    go_region_law (first | (refine step_appK (by rfl) _ _ _ (by rfl) 3 (.int .i64 0) 1 8 Tryz.underlying56 Tryz.info3 rfl (by decide) (.slice a3 M.free.length cap3) M.free.length _ (by rfl) ((HR.out.free.alloc (.cells #[.int .i64 (x : Int)] 3)).drew) w.heap.size 3 [.int .i64 x] (by rfl) ((Blk.new w [.int .i64 x] 3).drew) rfl (by simp [Value.oneCell']) (by omega) (by decide) ?_; intro g' cap' w4 hown4 hgrow4 hg4; have hk4 := ((((Fr.refl _ w).alloc (.cells #[.int .i64 (x : Int)] 3)).drew).grown (S := (Value.slice a3 M.free.length cap3).ownBlock.toList) hgrow4 (fun q e => .inl (by simp [e]))).blk HR.out.hd (fun hm => HR.out.apF (by simpa using hm)); have y4 := hk4.cell 3; have z4 := hk4.frozen 3; simp only [List.getElem?_cons_zero, List.getElem?_cons_succ] at y4))
    all_goals
      have hgrow4' : (w.alloc (.cells #[.int .i64 (x : Int)] 3)).grownBy w4 (Value.slice a3 M.free.length cap3).ownBlock := ⟨hgrow4.os, hgrow4.tape, hgrow4.output, hgrow4.size, hgrow4.block⟩
      obtain ⟨hR4, hF4, hq4⟩ := RTab.addF HR.out _ hown4 hgrow4' hg4
      have HR4 := Lib.hid hR4
      have HF4 := Lib.hid (And.intro hF4 hq4)
      clear hR4 hF4 hq4 hown4 hgrow4 hgrow4' hg4 hk4 y4 z4 e3 c2 c3 f3 q1
      generalize hw5 : w4.setCell ⟨pr, 3, none⟩ (.slice (some ⟨g', 0, none⟩) (M.free.length + 1) cap') = w5 at *
      clear hw5
      go_wp2
      go_loopw [6, 7] (fun v sy wr => ∃ j : Nat, j ≤ M.L.length ∧ sy = .int .i64 j ∧ Hid (Fr [] w5 wr) ∧ wr.ownsRow 0 126 2 v (woK M.L k j).length (itemCells (woK M.L k j)) ∧ Hid (∀ q, v.ownBlock = some q → w5.heap.size ≤ q)) (fun _ sy _ => M.L.length - (intOf sy).toNat)
      case atStart => exact ⟨0, Nat.zero_le _, rfl, Lib.hid (Fr.refl _ _), by rw [woK_zero]; exact World.ownsRow_nil _ _ _ _, Lib.hid (fun q e => by cases e)⟩
      case round =>
        obtain ⟨j, hj, rfl, HF, hown, HQ⟩ := hrel
        obtain ⟨a8, c8, rfl⟩ := ownsRow_slice hown
        have HRr := Lib.hid (HR4.out.fr0 HF.out)
        have c2 := HRr.out.hd.cell 2
        simp only [List.getElem?_cons_zero, List.getElem?_cons_succ] at c2
        by_cases hjK : j < M.L.length
        · have hjl : (j : Int) < M.L.length := by omega
          have hjz : (0 : Int) ≤ j := by omega
          have hwl := woK_len (L := M.L) k j
          by_cases hjk : j = k
          · subst hjk
            have hb : ((j : Int) != (j : Int)) = false := by simp
            have Hw := Lib.hid (woK_eq hk)
            go_wp2
            go_roundw
            case rel => exact ⟨j + 1, by omega, by go_num, HF, by rw [Hw.out]; exact hown, HQ⟩
            case measure => simp [intOf]; omega
          · have hb : ((j : Int) != (k : Int)) = true := by simp; omega
            have Hw := Lib.hid (woK_ne hjK hjk)
            obtain ⟨b9, cap9, e, hb9, q0, q1⟩ := item_at HRr.out.items hjK
            simp only [Value.slice.injEq, Option.some.injEq, Addr.mk.injEq, and_true, true_and] at e
            obtain ⟨rfl, rfl⟩ := e
            have hpq : M.L[j] = (M.L[j].1, M.L[j].2) := rfl
            have Hpq := Lib.hid hpq; clear hpq
            generalize (M.L[j]'hjK).1 = y0 at *
            generalize (M.L[j]'hjK).2 = y1 at *
            generalize hW : woK M.L k j = Wk at *
            clear hW
            clear hjk
            go_wp2_with (at_builtin; refine wpList_appK rfl _ _ 113 rfl 126 itemZ 2 16 Tryz.underlying113 Tryz.infoItem rfl (by decide) (.slice a8 Wk.length c8) Wk.length _ rfl (hown.alloc _) wr.heap.size 126 [.int .u64 y0, .int .i64 y1] rfl (Blk.new wr [.int .u64 y0, .int .i64 y1] 126) rfl (by simp [Value.oneCell']) (by omega) (by decide) ?_; intro g9 cap9 w9 hown9 hgrow9 hg9; have hF9 : Fr (Value.slice a8 Wk.length c8).ownBlock.toList wr w9 := ((Fr.refl _ _).alloc _).grown hgrow9 (fun q e => .inl (by simp [e])))
            go_roundw
            case rel =>
              have hs := HF.out.size
              simp only [World.size_alloc] at hg9
              refine ⟨j + 1, by omega, by go_num, Lib.hid (HF.out.trans hF9 (fun q hq => .inr (HQ.out q (by simpa using hq)))), ?_, Lib.hid (fun q e => ?_)⟩
              · rw [Hw.out, Hpq.out, itemCells_snoc, List.length_append]
                exact hown9
              · simp only [Value.ownBlock, Option.some.injEq] at e
                subst e
                rcases hg9 with e | e
                · exact HQ.out _ e
                · omega
            case measure => simp [intOf]; omega
        · obtain rfl : j = M.L.length := by omega
          rw [woK_all] at hown HQ ⊢
          have Hown := Lib.hid hown; clear hown
          have fz := HRr.out.hd.frozen 2
          go_wp2
          go_ret
          rw [Hp.out]
          have hlp := HR4.out.hd.lt
          have hws := HF4.out.1.size
          have hnp : (Value.slice a8 (M.L.eraseIdx k).length c8).ownBlock ≠ some pr := fun e => by have := HQ.out pr e; omega
          have hRz : RTab (wr.setCell ⟨pr, 2, none⟩ (.slice a8 (M.L.eraseIdx k).length c8)) pr (.slice a8 (M.L.eraseIdx k).length c8) (.slice (some ⟨g', 0, none⟩) (M.free.length + 1) cap') { M with L := M.L.eraseIdx k, free := x :: M.free } :=
            ⟨HRr.out.hd.set 2 _, ownsRow_other Hown.out _ _ hnp, ownsRow_other HRr.out.free _ _ HRr.out.apF, hnp, HRr.out.apF, fun q hq e => by
              have h1 := HQ.out q hq
              have h2 := (HR4.out.free.lt q e).2
              omega⟩
          refine ⟨rfl, _, _, hRz, (HF4.out.1.trans' (HF.out.mono (by simp))).setCell _ _ (.inl (by simp [rTB])), fun q hq => ?_⟩
          simp only [rTB, List.mem_cons, List.mem_append, Option.mem_toList] at hq
          rcases hq with hq | hq | hq
          · exact .inl (by simp [rTB, hq])
          · have := HQ.out q hq; exact .inr (by omega)
          · exact HF4.out.2 q (by simp only [rTB, List.mem_cons, List.mem_append, Option.mem_toList]; exact .inr (.inr hq))
end
end Go.Proofs.YtbegdgnhpklceaaGreat

/- The document's table: Copy. -/
namespace Go.Proofs.YtbegdgnhpklceaaGreat
open Go.RowKit
set_option maxRecDepth 10000
set_option maxHeartbeats 1600000

theorem Fr.fresh {w0 w w' : World} {g : Nat} (h : Fr [] w0 w) (k : Fr [g] w w') (hg : w0.heap.size ≤ g) : Fr [] w0 w' :=
  h.trans k (fun b hb => by simp at hb; subst hb; exact .inr hg)

section
variable {w w' : World} {pr : Nat} {vL vF : Value} {M : Md}
theorem rcopy_w (h : RTab w pr vL vF M) (hok : M.Ok) :
    Calls Tryz.prog 65 #[ptr pr] w fun e w' => ∃ pr' vL' vF', e = .returned (ptr pr') ∧ RTab w' pr' vL' vF' M ∧ Fr [] w w' ∧ ∀ q ∈ rTB pr' vL' vF', w.heap.size ≤ q := by
  have hcnt := hok.cnt
  have hb := hok.ar.hb
  have hs := hok.ar.hs
  simp only [Md.ar] at hb hs
  have HV := Lib.hid (rvalid_w h)
  obtain ⟨a2, cap2, rfl⟩ := h.slL
  obtain ⟨a3, cap3, rfl⟩ := h.slF
  clear hok
  have hfl : M.free.length ≤ 65536 := by omega
  have hLl : M.L.length ≤ 65536 := by omega
  clear hcnt
  have HR := Lib.hid h; clear h
  go_enter Tryz.func65, Tryz.ntmps65
  go_wp2_with fail
  refine HV.out.mono ?_
  rintro _ w ⟨rfl, rfl⟩
  have c1 := HR.out.hd.cell 1
  have c2 := HR.out.hd.cell 2
  have c3 := HR.out.hd.cell 3
  have c4 := HR.out.hd.cell 4
  simp only [List.getElem?_cons_zero, List.getElem?_cons_succ] at c1 c2 c3 c4
  have HC : Hid (∀ w' : World, Fr [] w w' → w'.cell? ⟨pr, 1, none⟩ = some (.int .i64 M.slots) ∧ w'.cell? ⟨pr, 2, none⟩ = some (.slice a2 M.L.length cap2) ∧ w'.cell? ⟨pr, 3, none⟩ = some (.slice a3 M.free.length cap3) ∧ w'.cell? ⟨pr, 4, none⟩ = some (.int .i64 M.given)) :=
    Lib.hid (fun w' hf => ⟨hf.cell c1 (by simp), hf.cell c2 (by simp), hf.cell c3 (by simp), hf.cell c4 (by simp)⟩)
  have HRL : Hid (∀ w' : World, Fr [] w w' → w'.ownsRow 0 126 2 (.slice a2 M.L.length cap2) M.L.length (itemCells M.L)) := Lib.hid (fun w' hf => (HR.out.fr0 hf).items)
  have HRF : Hid (∀ w' : World, Fr [] w w' → w'.ownsRow 0 3 1 (.slice a3 M.free.length cap3) M.free.length (encN M.free.reverse)) := Lib.hid (fun w' hf => (HR.out.fr0 hf).free)
  clear HR HV
  go_wp2
  go_region_held3 (fun w' => w'.cell? ⟨pr, 1, none⟩ = some (.int .i64 M.slots) ∧ w'.cell? ⟨pr, 2, none⟩ = some (.slice a2 M.L.length cap2) ∧ w'.cell? ⟨pr, 3, none⟩ = some (.slice a3 M.free.length cap3) ∧ w'.cell? ⟨pr, 4, none⟩ = some (.int .i64 M.given))
    (first
      | go_keep
      | (exact HC.out _ hfr4)
      | (exact HC.out _ hfr5)
      | (exact HC.out _ (hfr4.alloc _))
      | (exact HC.out _ (hfr5.alloc _))
      | (exact HC.out _ ((Fr.refl [] w).alloc _))
      | (exact HC.out _ (((Fr.refl [] w).alloc _).alloc _))
      | (exact HC.out _ (((Fr.refl [] w).alloc _).drew))
      | (exact HC.out _ ((((Fr.refl [] w).alloc _).alloc _).drew)))
    (first
      | (refine step_app_mt (by rfl) _ _ _ (by rfl) 126 itemZ 2 16 Tryz.underlying113 Tryz.infoItem rfl (by decide) _ (by rfl)
          (by first | (refine (Blk.new' _ [] _ ?_).drew; first | rfl | (simp; done)) | (refine ((Blk.new' _ [] _ ?_).alloc _).drew; first | rfl | (simp; done)) | (refine Blk.new' _ [] _ ?_; first | rfl | (simp; done)) | (refine hF5.blk ((Blk.new' _ [] _ ?_).drew) ?_ <;> (first | rfl | (simp; done))) | (refine hF5.blk (((Blk.new' _ [] _ ?_).alloc _).drew) ?_ <;> (first | rfl | (simp; done))))
          (.slice a2 M.L.length cap2) M.L.length (itemCells M.L) (by rfl)
          (HRL.out _ (by first | exact ((Fr.refl [] w).alloc _).drew | exact (((Fr.refl [] w).alloc _).alloc _).drew | exact hfr5 | exact hfr5.alloc _))
          (itemCells_one _) (by unfold maxLen; omega) (by omega) ?_; intro v4 w4 hown4 hF4 hq4
         obtain ⟨av4, cv4, rfl⟩ := ownsRow_slice hown4
         have hfr4 : Fr [] w w4 := (by first | (refine ((((Fr.refl [] w).alloc _).drew)).fresh hF4 ?_; first | exact Nat.le_refl _ | omega | (simp; done) | (have := hfr5.size; first | omega | (simp; omega))) | (refine (((((Fr.refl [] w).alloc _).alloc _).drew)).fresh hF4 ?_; first | exact Nat.le_refl _ | omega | (simp; done) | (have := hfr5.size; first | omega | (simp; omega))) | (refine (hfr5).fresh hF4 ?_; first | exact Nat.le_refl _ | omega | (simp; done) | (have := hfr5.size; first | omega | (simp; omega))) | (refine ((hfr5.alloc _)).fresh hF4 ?_; first | exact Nat.le_refl _ | omega | (simp; done) | (have := hfr5.size; first | omega | (simp; omega)))))
      | (refine step_app_mt (by rfl) _ _ _ (by rfl) 3 (.int .i64 0) 1 8 Tryz.underlying56 Tryz.info3 rfl (by decide) _ (by rfl)
          (by first | (refine (Blk.new' _ [] _ ?_).drew; first | rfl | (simp; done)) | (refine ((Blk.new' _ [] _ ?_).alloc _).drew; first | rfl | (simp; done)) | (refine Blk.new' _ [] _ ?_; first | rfl | (simp; done)) | (refine hF4.blk ((Blk.new' _ [] _ ?_).drew) ?_ <;> (first | rfl | (simp; done))) | (refine hF4.blk (((Blk.new' _ [] _ ?_).alloc _).drew) ?_ <;> (first | rfl | (simp; done))))
          (.slice a3 M.free.length cap3) M.free.length (encN M.free.reverse) (by rfl)
          (HRF.out _ (by first | exact ((Fr.refl [] w).alloc _).drew | exact (((Fr.refl [] w).alloc _).alloc _).drew | exact hfr4 | exact hfr4.alloc _))
          (by simp [encN, Value.oneCell']) (by unfold maxLen; omega) (by omega) ?_; intro v5 w5 hown5 hF5 hq5
         obtain ⟨av5, cv5, rfl⟩ := ownsRow_slice hown5
         have hfr5 : Fr [] w w5 := (by first | (refine ((((Fr.refl [] w).alloc _).drew)).fresh hF5 ?_; first | exact Nat.le_refl _ | omega | (simp; done) | (have := hfr4.size; first | omega | (simp; omega))) | (refine (((((Fr.refl [] w).alloc _).alloc _).drew)).fresh hF5 ?_; first | exact Nat.le_refl _ | omega | (simp; done) | (have := hfr4.size; first | omega | (simp; omega))) | (refine (hfr4).fresh hF5 ?_; first | exact Nat.le_refl _ | omega | (simp; done) | (have := hfr4.size; first | omega | (simp; omega))) | (refine ((hfr4.alloc _)).fresh hF5 ?_; first | exact Nat.le_refl _ | omega | (simp; done) | (have := hfr4.size; first | omega | (simp; omega))))))
  all_goals
    go_wp2
    go_ret
    have k4 : ∀ q, (Value.slice av4 M.L.length cv4).ownBlock = some q → w.heap.size ≤ q ∧ q < w4.heap.size := fun q hq => by
      have h1 := hq4 q hq
      have h2 := (hown4.lt q hq).2
      have h3 := hfr4.size
      try simp only [World.size_alloc, World.size_drew] at h1
      first | omega | (have h4 := hfr5.size; omega)
    have k5 : ∀ q, (Value.slice av5 M.free.length cv5).ownBlock = some q → w.heap.size ≤ q ∧ q < w5.heap.size := fun q hq => by
      have h1 := hq5 q hq
      have h2 := (hown5.lt q hq).2
      have h3 := hfr5.size
      try simp only [World.size_alloc] at h1
      first | omega | (have h4 := hfr4.size; omega)
    have k45 : ∀ q, (Value.slice av4 M.L.length cv4).ownBlock = some q → (Value.slice av5 M.free.length cv5).ownBlock ≠ some q := fun q hq e => by
      have h1 := hq5 q e
      have h2 := (hown5.lt q e).2
      have h3 := hq4 q hq
      have h4 := (hown4.lt q hq).2
      have h5 := hF4.size
      have h6 := hF5.size
      try simp only [World.size_alloc, World.size_drew] at h1 h3 h5 h6
      omega
    first
      | (have hA : w5.ownsRow 0 126 2 (.slice av4 M.L.length cv4) M.L.length (itemCells M.L) := by
          first
            | exact ownsRow_same hown4 (fun q hq => hF5.keep q (hown4.lt q hq).2 (by
                have h1 := hq4 q hq
                have h2 := (hown4.lt q hq).2
                have h5 := hF4.size
                try simp only [World.size_alloc, World.size_drew] at h1 h5
                simp; omega))
            | exact ownsRow_same (hown4.alloc _) (fun q hq => hF5.keep q (by have := (hown4.lt q hq).2; simp; omega) (by have := (hown4.lt q hq).2; simp; omega))
         have hb := Blk.new w5 [.bool true, .int .i64 M.slots, .slice av4 M.L.length cv4, .slice av5 M.free.length cv5, .int .i64 M.given] 115
         have hs4 : w4.heap.size ≤ w5.heap.size := by have h6 := hF5.size; simp only [World.size_alloc] at h6; omega
         refine ⟨_, _, _, rfl, ⟨hb, hA.alloc _, hown5.alloc _, fun e => by have := (k4 _ e).2; omega, fun e => by have := (k5 _ e).2; omega, k45⟩, hfr5.alloc _, fun q hq => ?_⟩
         simp only [rTB, List.mem_cons, List.mem_append, Option.mem_toList] at hq
         rcases hq with rfl | hq | hq
         · exact hfr5.size
         · exact (k4 q hq).1
         · exact (k5 q hq).1)
      | (have hA : w5.ownsRow 0 126 2 (.slice av4 M.L.length cv4) M.L.length (itemCells M.L) := by
          exact ownsRow_same hown4 (fun q hq => hF5.keep q (hown4.lt q hq).2 (by
                have h1 := hq4 q hq
                have h2 := (hown4.lt q hq).2
                have h5 := hF4.size
                try simp only [World.size_alloc, World.size_drew] at h1 h5
                simp; omega))
         have hb := Blk.new w5 [.bool true, .int .i64 M.slots, .slice av4 M.L.length cv4, .slice av5 M.free.length cv5, .int .i64 M.given] 115
         have hs4 : w4.heap.size ≤ w5.heap.size := hF5.size
         refine ⟨_, _, _, rfl, ⟨hb, hA.alloc _, hown5.alloc _, fun e => by have := (k4 _ e).2; omega, fun e => by have := (k5 _ e).2; omega, k45⟩, hfr5.alloc _, fun q hq => ?_⟩
         simp only [rTB, List.mem_cons, List.mem_append, Option.mem_toList] at hq
         rcases hq with rfl | hq | hq
         · exact hfr5.size
         · exact (k4 q hq).1
         · exact (k5 q hq).1)
      | (have hB : w4.ownsRow 0 3 1 (.slice av5 M.free.length cv5) M.free.length (encN M.free.reverse) := by
          first
            | exact ownsRow_same hown5 (fun q hq => hF4.keep q (hown5.lt q hq).2 (by
                have h1 := hq5 q hq
                have h2 := (hown5.lt q hq).2
                have h5 := hF5.size
                try simp only [World.size_alloc, World.size_drew] at h1 h5
                simp; omega))
            | exact ownsRow_same (hown5.alloc _) (fun q hq => hF4.keep q (by have := (hown5.lt q hq).2; simp; omega) (by have := (hown5.lt q hq).2; simp; omega))
         have hb := Blk.new w4 [.bool true, .int .i64 M.slots, .slice av4 M.L.length cv4, .slice av5 M.free.length cv5, .int .i64 M.given] 115
         have hs4 : w5.heap.size ≤ w4.heap.size := by have h6 := hF4.size; (try simp only [World.size_alloc, World.size_drew] at h6); omega
         refine ⟨_, _, _, rfl, ⟨hb, hown4.alloc _, hB.alloc _, fun e => by have := (k4 _ e).2; omega, fun e => by have := (k5 _ e).2; omega, k45⟩, hfr4.alloc _, fun q hq => ?_⟩
         simp only [rTB, List.mem_cons, List.mem_append, Option.mem_toList] at hq
         rcases hq with rfl | hq | hq
         · exact hfr4.size
         · exact (k4 q hq).1
         · exact (k5 q hq).1)
end
end Go.Proofs.YtbegdgnhpklceaaGreat

/- The contracts of package intern over the plain model. -/
namespace Go.Proofs.YtbegdgnhpklceaaGreat
open Go.RowKit

def TabM (w : World) (pt : Nat) (M : Md) (l : List Nat) : Prop :=
  ∃ T, TableAt w pt T l ∧ T.A = M.ar ∧ M.Ok ∧ ∀ id i, (id, i) ∈ M.L ↔ (T.used i ∧ T.ids i = id)

theorem TabM.ok {w : World} {pt : Nat} {M : Md} {l : List Nat} (h : TabM w pt M l) : M.Ok := by obtain ⟨_, _, _, h, _⟩ := h; exact h
theorem TabM.lt {w : World} {pt : Nat} {M : Md} {l : List Nat} (h : TabM w pt M l) : ∀ b ∈ l, b < w.heap.size := by obtain ⟨_, h, _⟩ := h; exact h.lt
theorem TabM.fr {w w' : World} {pt : Nat} {M : Md} {l S : List Nat} (h : TabM w pt M l) (hf : Fr S w w') (hd : ∀ b ∈ l, b ∉ S) : TabM w' pt M l := by
  obtain ⟨T, h, r⟩ := h; exact ⟨T, h.fr hf hd, r⟩
theorem TabM.below {w w' : World} {pt : Nat} {M : Md} {l : List Nat} (h : TabM w pt M l) (hf : Below w.heap.size w w') : TabM w' pt M l :=
  h.fr (Fr.of_below hf) (by simp)
theorem TabM.eqv {w w' : World} {pt : Nat} {M : Md} {l : List Nat} (h : TabM w pt M l) (he : Eqv w' w) : TabM w' pt M l :=
  h.fr (he.fr (Fr.refl [] w)) (by simp)

/-- What a call that may change one object leaves: its new blocks are old ones of its own, or new. -/
def Next (l l' : List Nat) (w w' : World) : Prop := Fr l w w' ∧ ∀ b ∈ l', b ∈ l ∨ w.heap.size ≤ b

theorem Next.refl (l : List Nat) (w : World) : Next l l w w := ⟨Fr.refl _ _, fun _ h => .inl h⟩
theorem Next.trans {l l' l'' : List Nat} {w w' w'' : World} (h : Next l l' w w') (k : Next l' l'' w' w'') : Next l l'' w w'' :=
  ⟨h.1.trans k.1 h.2, fun b hb => (k.2 b hb).elim (h.2 b) (fun hb => .inr (Nat.le_trans h.1.size hb))⟩
theorem Next.of_below {l : List Nat} {w w' : World} (h : Below w.heap.size w w') : Next l l w w' := ⟨(Fr.of_below h).mono (by simp), fun _ h => .inl h⟩

theorem tab_new (slots : Nat) (w : World) (h : slots ≤ 65536) :
    Calls Tryz.prog 39 #[.int .i64 slots] w fun e w' => ∃ pt, e = .returned (.tuple #[ptr pt, .int .i64 0]) ∧ ∃ l, TabM w' pt (Md.new slots) l ∧ Next [] l w w' := by
  refine (table_new slots w h).mono ?_
  rintro e w' ⟨pt, rfl, l, hT, hF, hl⟩
  refine ⟨pt, rfl, l, ⟨_, hT, rfl, Md.ok_new h, fun id i => ?_⟩, hF, fun b hb => .inr (hl b hb)⟩
  simp only [Md.new, List.not_mem_nil, false_iff, not_and]
  intro hu; exact absurd hu.1 (Nat.not_lt_zero _)

theorem tab_put {w : World} {pt : Nat} {M : Md} {l : List Nat} (id : Nat) (hid : id < 18446744073709551616) (h : TabM w pt M l) :
    Calls Tryz.prog 43 #[ptr pt, .int .u64 id] w fun e w' => e = .returned (.tuple #[.int .i64 (M.put id).idx, .bool (M.put id).added, .int .i64 (M.put id).err]) ∧
      ∃ l', TabM w' pt (M.put id).M l' ∧ Next l l' w w' := by
  have h0 := h
  obtain ⟨T, hT, hA, hok, hiff⟩ := h
  cases hf : M.find id with
  | some i =>
    have hm := (hiff id i).1 (Md.find_mem hf)
    have e : M.put id = ⟨i, false, 0, M⟩ := by simp only [Md.put, hf]
    rw [e]
    refine (table_put_there hid hT hm.1 hm.2).mono ?_
    rintro e w' ⟨rfl, hB⟩
    exact ⟨rfl, l, h0.below hB, Next.of_below hB⟩
  | none =>
    have hno : ∀ i, T.used i → T.ids i ≠ id := fun i hu e => Md.find_none.1 hf i ((hiff id i).2 ⟨hu, e⟩)
    cases hn : M.next with
    | none =>
      have e : M.put id = ⟨0, false, 4, M⟩ := by simp only [Md.put, hf, hn]
      rw [e]
      refine (table_put_full hid hT hno (by rw [hA, Md.ar_next]; exact hn)).mono ?_
      rintro e w' ⟨rfl, hB⟩
      exact ⟨rfl, l, h0.below hB, Next.of_below hB⟩
    | some i =>
      have e : M.put id = ⟨i, true, 0, M.add id i⟩ := by simp only [Md.put, hf, hn]
      rw [e]
      have hn' : T.A.next = some i := by rw [hA, Md.ar_next]; exact hn
      refine (table_put_new hid hT hno hn').mono ?_
      rintro e w' ⟨rfl, l', hT', hF, hs⟩
      refine ⟨rfl, l', ⟨T.put id i, hT', ?_, Md.ok_add hok hid hf hn, fun id' j => ?_⟩, hF, hs⟩
      · rw [Md.ar_add hn, ← hA]; rfl
      · have hu := isUsed_alloc (by rw [hA]; exact hok.ar) hn'
        simp only [Md.add, List.mem_append, List.mem_singleton, Prod.mk.injEq, hiff]
        have hu2 : (T.put id i).used j ↔ (T.used j ∨ j = i) := hu.2 j
        rw [hu2]
        simp only [Tb.put]
        constructor
        · rintro (⟨h1, h2⟩ | ⟨rfl, rfl⟩)
          · have : j ≠ i := fun e => hu.1 (e ▸ h1)
            rw [updN_other this]; exact ⟨.inl h1, h2⟩
          · rw [updN_same]; exact ⟨.inr rfl, rfl⟩
        · rintro ⟨h1, h2⟩
          by_cases e : j = i
          · rw [e, updN_same] at h2; exact .inr ⟨h2.symm, e⟩
          · rw [updN_other e] at h2; exact .inl ⟨h1.resolve_right e, h2⟩

theorem tab_del {w : World} {pt : Nat} {M : Md} {l : List Nat} (id : Nat) (hid : id < 18446744073709551616) (h : TabM w pt M l) :
    Calls Tryz.prog 50 #[ptr pt, .int .u64 id] w fun e w' => e = .returned (.int .i64 (M.del id).err) ∧ TabM w' pt (M.del id).M l ∧ Next l l w w' := by
  have h0 := h
  obtain ⟨T, hT, hA, hok, hiff⟩ := h
  cases hf : M.find id with
  | none =>
    have hno : ∀ i, T.used i → T.ids i ≠ id := fun i hu e => Md.find_none.1 hf i ((hiff id i).2 ⟨hu, e⟩)
    have e : M.del id = ⟨5, M⟩ := by simp only [Md.del, hf]
    rw [e]
    refine (table_del_none hid hT hno).mono ?_
    rintro e w' ⟨rfl, hB⟩
    exact ⟨rfl, h0.below hB, Next.of_below hB⟩
  | some i =>
    have hm := (hiff id i).1 (Md.find_mem hf)
    have e : M.del id = ⟨0, M.rem id i⟩ := by simp only [Md.del, hf]
    rw [e]
    refine (table_del hid hT hm.1 hm.2).mono ?_
    rintro e w' ⟨rfl, hT', hF⟩
    refine ⟨rfl, ⟨T.del i, hT', ?_, Md.ok_rem hok (Md.find_mem hf), fun id' j => ?_⟩, hF, fun _ h => .inl h⟩
    · rw [Md.ar_rem, ← hA]; rfl
    · have hu2 : (T.del i).used j ↔ (T.used j ∧ j ≠ i) := isUsed_put hm.1 j
      simp only [Md.rem, List.mem_filter, bne_iff_ne, hiff]
      rw [hu2]
      simp only [Tb.del]
      constructor
      · rintro ⟨⟨h1, h2⟩, h3⟩
        have e : j ≠ i := by rintro rfl; exact h3 (h2.symm.trans hm.2)
        rw [updN_other e]; exact ⟨⟨h1, e⟩, h2⟩
      · rintro ⟨⟨h1, h3⟩, h2⟩
        rw [updN_other h3] at h2
        refine ⟨⟨h1, h2⟩, fun e => ?_⟩
        have a1 := (hiff id j).2 ⟨h1, h2.trans e⟩
        have a2 := Md.mem_find hok.ids a1
        rw [hf] at a2
        exact h3 (by simpa using a2.symm)

theorem tab_get {w : World} {pt : Nat} {M : Md} {l : List Nat} (id : Nat) (hid : id < 18446744073709551616) (h : TabM w pt M l) :
    Calls Tryz.prog 58 #[ptr pt, .int .u64 id] w fun e w' => e = .returned (.tuple #[.int .i64 ((M.find id).getD 0), .bool (M.find id).isSome]) ∧ TabM w' pt M l ∧ Below w.heap.size w w' := by
  have h0 := h
  obtain ⟨T, hT, hA, hok, hiff⟩ := h
  cases hf : M.find id with
  | none =>
    have hno : ∀ i, T.used i → T.ids i ≠ id := fun i hu e => Md.find_none.1 hf i ((hiff id i).2 ⟨hu, e⟩)
    refine (table_get_no hid hT hno).mono ?_
    rintro e w' ⟨rfl, hB⟩
    exact ⟨rfl, h0.below hB, hB⟩
  | some i =>
    have hm := (hiff id i).1 (Md.find_mem hf)
    refine (table_get_yes hid hT hm.1 hm.2).mono ?_
    rintro e w' ⟨rfl, hB⟩
    exact ⟨rfl, h0.below hB, hB⟩

def Md.at (M : Md) (i : Int) : Option Nat := if 0 ≤ i then M.idOf i.toNat else none

theorem tab_id {w : World} {pt : Nat} {M : Md} {l : List Nat} (i : Int) (h : TabM w pt M l) :
    Calls Tryz.prog 68 #[ptr pt, .int .i64 i] w fun e w' => e = .returned (.tuple #[.int .u64 ((M.at i).getD 0), .bool (M.at i).isSome]) ∧ w = w' := by
  obtain ⟨T, hT, hA, hok, hiff⟩ := h
  unfold Md.at
  by_cases hi : 0 ≤ i
  · obtain ⟨k, rfl⟩ := Int.eq_ofNat_of_zero_le hi
    rw [if_pos hi]
    cases hf : M.idOf (k : Int).toNat with
    | some id =>
      have hm := (hiff id k).1 (by simpa using Md.idOf_mem hf)
      refine (table_id_yes hT hm.1).mono ?_
      rintro e w' ⟨rfl, rfl⟩
      rw [hm.2]; exact ⟨rfl, rfl⟩
    | none =>
      refine (table_id_no hT ?_).mono ?_
      · rintro ⟨_, hu⟩
        simp only [Int.toNat_natCast] at hu hf
        exact Md.idOf_none.1 hf _ ((hiff _ k).2 ⟨hu, rfl⟩)
      · rintro e w' ⟨rfl, rfl⟩; exact ⟨rfl, rfl⟩
  · rw [if_neg hi]
    refine (table_id_no hT (fun h => hi h.1)).mono ?_
    rintro e w' ⟨rfl, rfl⟩; exact ⟨rfl, rfl⟩

theorem tab_len {w : World} {pt : Nat} {M : Md} {l : List Nat} (h : TabM w pt M l) :
    Calls Tryz.prog 57 #[ptr pt] w fun e w' => e = .returned (.int .i64 M.L.length) ∧ w = w' := by
  obtain ⟨T, hT, hA, hok, hiff⟩ := h
  refine (table_len hT).mono ?_
  rintro e w' ⟨rfl, rfl⟩
  refine ⟨ret_int ?_, rfl⟩
  have := hok.cnt
  rw [hA]; simp only [Md.ar, Ar.used]; omega

end Go.Proofs.YtbegdgnhpklceaaGreat

/- A plain model of a store: its limits, the last sequence number, the slots, the vertices, the live edges by their sequence numbers. -/
namespace Go.Proofs.YtbegdgnhpklceaaGreat
set_option maxRecDepth 10000

/-- A live edge. -/
structure Lv where
  slot : Nat
  seq : Nat
  u : Nat
  v : Nat
  wt : Int
  t : Int
  x : Int
deriving DecidableEq
def Lv.z : Lv := ⟨0, 0, 0, 0, 0, 0, 0⟩
def Lv.at (e : Lv) (id : Nat) : Bool := e.u == id || e.v == id
def incL (L : List Lv) (id : Nat) : List Nat := (L.filter fun e => e.at id).map (·.slot)
def liveAt (L : List Lv) (i : Nat) : Lv := (L.find? fun e => e.slot == i).getD Lv.z
structure Sm where
  V : Nat
  E : Nat
  last : Nat
  A : Ar
  M : Md
  L : List Lv

namespace Sm
structure Ok (s : Sm) : Prop where
  ar : s.A.ok
  sl : s.A.slots = s.E
  md : s.M.Ok
  ms : s.M.slots = s.V
  used : ∀ i, s.A.isUsed i ↔ ∃ e ∈ s.L, e.slot = i
  one : (s.L.map (·.slot)).Nodup
  seq : s.L.Pairwise fun a b => a.seq < b.seq
  last : ∀ e ∈ s.L, e.seq ≤ s.last
  vert : ∀ id, (s.M.find id).isSome = true ↔ incL s.L id ≠ []
  ne : ∀ e ∈ s.L, e.u ≠ e.v
  u64 : ∀ e ∈ s.L, e.u < 18446744073709551616 ∧ e.v < 18446744073709551616
  leV : s.V ≤ 4096
  leE : s.E ≤ 16384
  lt : s.last < 18446744073709551616
def new (V E last : Nat) : Sm := { V := V, E := E, last := last, A := Ar.new E, M := Md.new V, L := [] }
def more (s : Sm) (u v : Nat) : Nat := (if (s.M.find u).isSome = true then 0 else 1) + if (s.M.find v).isSome = true then 0 else 1
def chk (s : Sm) (u v : Nat) : Nat := if u = v then 9 else if s.E ≤ s.A.used then 12 else if s.V < s.M.L.length + s.more u v then 11 else 0
def slot (s : Sm) : Nat := s.A.next.getD 0
def edge (s : Sm) (u v : Nat) (wt t x : Int) : Lv := ⟨s.slot, s.last + 1, u, v, wt, t, x⟩
def ins (s : Sm) (u v : Nat) (wt t x : Int) : Sm := { s with last := s.last + 1, A := s.A.alloc, M := ((s.M.put u).M.put v).M, L := s.L ++ [s.edge u v wt t x] }
def delIf (M : Md) (L : List Lv) (id : Nat) : Md := if incL L id = [] then (M.del id).M else M
def rem (s : Sm) (i : Nat) : Sm :=
  { s with A := s.A.put i, L := s.L.filter (fun e => e.slot != i), M := delIf (delIf s.M (s.L.filter fun e => e.slot != i) (liveAt s.L i).u) (s.L.filter fun e => e.slot != i) (liveAt s.L i).v }
end Sm

-- lists
theorem incL_snoc (L : List Lv) (e : Lv) (id : Nat) : incL (L ++ [e]) id = incL L id ++ if e.at id then [e.slot] else [] := by
  unfold incL
  rw [List.filter_append, List.map_append]
  congr 1
  by_cases h : e.at id = true <;> simp [h]
theorem mem_incL {L : List Lv} {id i : Nat} : i ∈ incL L id ↔ ∃ e ∈ L, e.at id = true ∧ e.slot = i := by
  unfold incL
  simp [List.mem_map, List.mem_filter, and_assoc]
theorem incL_nodup {L : List Lv} (h : (L.map (·.slot)).Nodup) (id : Nat) : (incL L id).Nodup := (List.Sublist.map _ List.filter_sublist).nodup h
theorem incL_filter (L : List Lv) (id i : Nat) : incL (L.filter fun e => e.slot != i) id = (incL L id).filter (· != i) := by
  unfold incL
  rw [List.filter_map, List.filter_filter, List.filter_filter]
  congr 1
  exact List.filter_congr fun e _ => by simp [Bool.and_comm]
theorem incL_len (L : List Lv) (id : Nat) : (incL L id).length ≤ L.length := by
  unfold incL; rw [List.length_map]; exact List.length_filter_le _ _
theorem liveAt_mem {L : List Lv} (h : (L.map (·.slot)).Nodup) {e : Lv} (he : e ∈ L) : liveAt L e.slot = e := by
  unfold liveAt
  induction L with
  | nil => cases he
  | cons a r ih =>
    simp only [List.map_cons, List.nodup_cons] at h
    by_cases e0 : a.slot = e.slot
    · rcases List.mem_cons.1 he with rfl | he
      · simp
      · exact absurd (List.mem_map.2 ⟨_, he, e0.symm⟩) h.1
    · rcases List.mem_cons.1 he with rfl | he
      · exact absurd rfl e0
      · rw [List.find?_cons_of_neg (by simpa using e0)]; exact ih h.2 he
theorem liveAt_none {L : List Lv} {i : Nat} (h : ∀ e ∈ L, e.slot ≠ i) : liveAt L i = Lv.z := by
  unfold liveAt
  rw [List.find?_eq_none.2 (fun e he => by simpa using h e he)]; rfl
theorem liveAt_snoc {L : List Lv} {e : Lv} (h : ∀ x ∈ L, x.slot ≠ e.slot) (i : Nat) : liveAt (L ++ [e]) i = if i = e.slot then e else liveAt L i := by
  unfold liveAt
  by_cases hi : i = e.slot
  · subst hi
    rw [if_pos rfl, List.find?_append, List.find?_eq_none.2 (fun x hx => by simpa using h x hx)]
    simp
  · rw [if_neg hi, List.find?_append]
    have hn : (e.slot == i) = false := by simp; omega
    simp [hn]
theorem liveAt_filter {L : List Lv} (i j : Nat) : liveAt (L.filter fun e => e.slot != i) j = if j = i then Lv.z else liveAt L j := by
  by_cases hj : j = i
  · subst hj
    rw [if_pos rfl]
    exact liveAt_none fun e he => by simpa using (List.mem_filter.1 he).2
  · rw [if_neg hj]
    unfold liveAt
    rw [List.find?_filter]
    congr 1
    congr 1
    funext e
    by_cases he : e.slot = j
    · subst he; simp [hj]
    · simp [he]

-- the arena
theorem ar_next_some {A : Ar} (h : A.used < A.slots) : ∃ i, A.next = some i := by
  obtain ⟨s, b, f⟩ := A
  cases f with
  | nil =>
    have hb : b < s := by simpa [Ar.used] using h
    exact ⟨b, if_pos hb⟩
  | cons k r => exact ⟨k, rfl⟩
theorem ar_next_lt {A : Ar} (hok : A.ok) {i : Nat} (h : A.next = some i) : i < A.slots := by
  obtain ⟨s, b, f⟩ := A
  cases f with
  | nil =>
    simp only [Ar.next] at h
    split at h
    · cases h; assumption
    · cases h
  | cons k r =>
    cases h
    exact Nat.lt_of_lt_of_le (hok.lt _ (List.mem_cons_self ..)) hok.hb
theorem ar_put_ok {A : Ar} (h : A.ok) {k : Nat} (hu : A.isUsed k) : (A.put k).ok := by
  refine ⟨h.hs, h.hb, ?_, ?_⟩
  · simp only [Ar.put, List.nodup_cons]; exact ⟨hu.2, h.nd⟩
  · intro x hx; simp only [Ar.put, List.mem_cons] at hx
    rcases hx with rfl | hx
    · exact hu.1
    · exact h.lt x hx
theorem ar_alloc_slots (A : Ar) : A.alloc.slots = A.slots := by
  obtain ⟨s, b, f⟩ := A; cases f <;> rfl

-- the table
theorem md_slots_put (M : Md) (id : Nat) : (M.put id).M.slots = M.slots := by
  unfold Md.put
  cases M.find id with
  | some i => rfl
  | none => cases M.next <;> rfl
theorem md_slots_del (M : Md) (id : Nat) : (M.del id).M.slots = M.slots := by
  unfold Md.del
  cases M.find id <;> rfl
theorem md_next {M : Md} (h : M.Ok) (hl : M.L.length < M.slots) : ∃ i, M.next = some i := by
  have hc := h.cnt
  obtain ⟨s, L, f, g⟩ := M
  cases f with
  | nil =>
    have hb : g < s := by simp at hc hl; omega
    exact ⟨g, if_pos hb⟩
  | cons k r => exact ⟨k, rfl⟩
/-- There is room for an id, or it is there. -/
def Fits (M : Md) (id : Nat) : Prop := (M.find id).isSome = true ∨ M.L.length < M.slots
theorem find_add {M : Md} (h : M.Ok) {id i : Nat} (hid : id < 18446744073709551616) (hf : M.find id = none) (hn : M.next = some i) (x : Nat) : (M.add id i).find x = if x = id then some i else M.find x := by
  have hok := Md.ok_add h hid hf hn
  by_cases hx : x = id
  · subst hx
    rw [if_pos rfl]
    exact (Md.find_iff hok).2 (by simp [Md.add])
  · rw [if_neg hx]
    cases hy : M.find x with
    | some j => exact (Md.find_iff hok).2 (by have := Md.find_mem hy; simp [Md.add, this])
    | none =>
      refine Md.find_none.2 fun j hm => ?_
      simp only [Md.add, List.mem_append, List.mem_singleton, Prod.mk.injEq] at hm
      rcases hm with hm | ⟨e, _⟩
      · exact Md.find_none.1 hy j hm
      · exact hx e
theorem put_fits {M : Md} (h : M.Ok) {id : Nat} (hid : id < 18446744073709551616) (hf : Fits M id) :
    (M.put id).err = 0 ∧ (∀ x, ((M.put id).M.find x).isSome = true ↔ ((M.find x).isSome = true ∨ x = id)) ∧ (M.put id).M.L.length = M.L.length + (if (M.find id).isSome = true then 0 else 1) ∧ (M.put id).M.find id = some (M.put id).idx := by
  unfold Md.put
  cases hi : M.find id with
  | some i =>
    refine ⟨rfl, fun x => ⟨.inl, fun hx => hx.elim (fun h => h) fun e => ?_⟩, by simp, hi⟩
    subst e; rw [hi]; rfl
  | none =>
    have hl : M.L.length < M.slots := hf.resolve_left (by rw [hi]; simp)
    obtain ⟨i, hn⟩ := md_next h hl
    simp only [hn]
    refine ⟨trivial, fun x => ?_, by simp [Md.add], by rw [find_add h hid hi hn, if_pos rfl]⟩
    rw [find_add h hid hi hn]
    by_cases hx : x = id
    · simp [hx]
    · simp [hx]
theorem find_del {M : Md} (h : M.Ok) (id x : Nat) : ((M.del id).M.find x).isSome = true ↔ ((M.find x).isSome = true ∧ x ≠ id) := by
  unfold Md.del
  cases hi : M.find id with
  | none =>
    refine ⟨fun hx => ⟨hx, fun e => ?_⟩, fun hx => hx.1⟩
    subst e; rw [hi] at hx; cases hx
  | some i =>
    have hok := Md.ok_rem h (Md.find_mem hi)
    simp only [Option.isSome_iff_exists]
    constructor
    · rintro ⟨j, hj⟩
      have hm := Md.find_mem hj
      simp only [Md.rem, List.mem_filter, bne_iff_ne] at hm
      exact ⟨⟨j, (Md.find_iff h).2 hm.1⟩, hm.2⟩
    · rintro ⟨⟨j, hj⟩, hne⟩
      refine ⟨j, (Md.find_iff hok).2 ?_⟩
      simp only [Md.rem, List.mem_filter, bne_iff_ne]
      exact ⟨Md.find_mem hj, hne⟩

namespace Sm
section
variable {s : Sm}
theorem ok_new {V E last : Nat} (hV : V ≤ 4096) (hE : E ≤ 16384) (hl : last < 18446744073709551616) : (new V E last).Ok := by
  refine ⟨⟨by simp [new, Ar.new]; omega, by simp [new, Ar.new], by simp [new, Ar.new], by simp [new, Ar.new]⟩, rfl, Md.ok_new (by omega), rfl, fun i => ?_, by simp [new], by simp [new], by simp [new], fun id => ?_, by simp [new], by simp [new], hV, hE, hl⟩
  · simp [new, Ar.new, Ar.isUsed]
  · simp [new, Md.new, Md.find, incL]
theorem len_used (h : s.Ok) : s.A.used = s.L.length := by
  rw [← usedL_len h.ar]
  have := ((List.perm_ext_iff_of_nodup (nodup_usedL s.A) h.one).2 fun i => by rw [mem_usedL, h.used]; simp).length_eq
  rw [List.length_map] at this
  exact this
theorem chk_ok (_h : s.Ok) {u v : Nat} (hc : s.chk u v = 0) : u ≠ v ∧ s.A.used < s.E ∧ s.M.L.length + s.more u v ≤ s.V := by
  unfold chk at hc
  split at hc
  · cases hc
  · split at hc
    · cases hc
    · split at hc
      · cases hc
      · exact ⟨by assumption, by omega, by omega⟩
theorem slot_next (h : s.Ok) {u v : Nat} (hc : s.chk u v = 0) : s.A.next = some s.slot := by
  obtain ⟨i, hi⟩ := ar_next_some (A := s.A) (by rw [h.sl]; exact (chk_ok h hc).2.1)
  unfold slot; rw [hi]; rfl
theorem fits_uv (h : s.Ok) {u v : Nat} (hu : u < 18446744073709551616) (hc : s.chk u v = 0) : Fits s.M u ∧ Fits (s.M.put u).M v := by
  obtain ⟨hne, _, hle⟩ := chk_ok h hc
  unfold more at hle
  have hs := h.ms
  have h1 : Fits s.M u := by
    unfold Fits
    by_cases hf : (s.M.find u).isSome = true
    · exact .inl hf
    · rw [if_neg hf] at hle; exact .inr (by omega)
  obtain ⟨_, p2, p3, _⟩ := put_fits h.md hu h1
  refine ⟨h1, ?_⟩
  unfold Fits
  rw [p2, p3, md_slots_put]
  by_cases hf : (s.M.find v).isSome = true
  · exact .inl (.inl hf)
  · rw [if_neg hf] at hle
    refine .inr ?_
    omega
theorem ok_ins (h : s.Ok) {u v : Nat} (hu : u < 18446744073709551616) (hv : v < 18446744073709551616) (hc : s.chk u v = 0) (hl : s.last + 1 < 18446744073709551616) (wt t x : Int) : (s.ins u v wt t x).Ok := by
  obtain ⟨hne, hlt, _⟩ := chk_ok h hc
  have hn := slot_next h hc
  obtain ⟨f1, f2⟩ := fits_uv h hu hc
  obtain ⟨hnu, hiff⟩ := Md.isUsed_alloc' h.ar hn
  have hnew : ∀ e ∈ s.L, e.slot ≠ s.slot := fun e he ee => hnu ((h.used _).2 ⟨e, he, ee⟩)
  obtain ⟨_, p2, _, _⟩ := put_fits h.md hu f1
  have hok1 := Md.ok_put h.md hu
  obtain ⟨_, q2, _, _⟩ := put_fits hok1 hv f2
  refine ⟨Md.alloc_ok h.ar hn, (ar_alloc_slots _).trans h.sl, Md.ok_put hok1 hv, (md_slots_put _ _).trans ((md_slots_put _ _).trans h.ms), fun i => ?_, ?_, ?_, ?_, fun id => ?_, ?_, ?_, h.leV, h.leE, hl⟩
  · simp only [ins]
    rw [hiff, h.used]
    simp only [List.mem_append, List.mem_singleton]
    constructor
    · rintro (⟨e, he, rfl⟩ | rfl)
      · exact ⟨e, .inl he, rfl⟩
      · exact ⟨_, .inr rfl, rfl⟩
    · rintro ⟨e, he | rfl, rfl⟩
      · exact .inl ⟨e, he, rfl⟩
      · exact .inr rfl
  · simp only [ins, List.map_append, List.map_cons, List.map_nil, List.nodup_append]
    refine ⟨h.one, by simp, fun a ha b hb e => ?_⟩
    simp only [List.mem_singleton] at hb
    obtain ⟨x, hx, rfl⟩ := List.mem_map.1 ha
    exact hnew x hx (e.trans hb)
  · simp only [ins]
    rw [List.pairwise_append]
    refine ⟨h.seq, by simp, fun a ha b hb => ?_⟩
    obtain rfl := List.mem_singleton.1 hb
    exact Nat.lt_succ_of_le (h.last a ha)
  · intro e he
    simp only [ins, List.mem_append, List.mem_singleton] at he
    rcases he with he | rfl
    · exact Nat.le_succ_of_le (h.last e he)
    · exact Nat.le_refl _
  · simp only [ins]
    rw [q2, p2, h.vert, incL_snoc]
    have hat : (s.edge u v wt t x).at id = true ↔ u = id ∨ v = id := by simp [Lv.at, edge]
    by_cases h1 : (s.edge u v wt t x).at id = true
    · rw [if_pos h1]
      refine ⟨fun _ => by simp, fun _ => ?_⟩
      rcases hat.1 h1 with e | e
      · exact .inl (.inr e.symm)
      · exact .inr e.symm
    · rw [if_neg h1, List.append_nil]
      refine ⟨fun h2 => ?_, fun h2 => .inl (.inl h2)⟩
      rcases h2 with (h2 | h2) | h2
      · exact h2
      · exact absurd (hat.2 (.inl h2.symm)) h1
      · exact absurd (hat.2 (.inr h2.symm)) h1
  · intro e he
    simp only [ins, List.mem_append, List.mem_singleton] at he
    rcases he with he | rfl
    · exact h.ne e he
    · exact hne
  · intro e he
    simp only [ins, List.mem_append, List.mem_singleton] at he
    rcases he with he | rfl
    · exact h.u64 e he
    · exact ⟨hu, hv⟩
theorem live_used (h : s.Ok) {i : Nat} (hu : s.A.isUsed i) : liveAt s.L i ∈ s.L ∧ (liveAt s.L i).slot = i := by
  obtain ⟨e, he, rfl⟩ := (h.used i).1 hu
  rw [liveAt_mem h.one he]
  exact ⟨he, rfl⟩
theorem delIf_ok {M : Md} (h : M.Ok) (L : List Lv) (id : Nat) : (delIf M L id).Ok := by
  unfold delIf; split
  · exact Md.ok_del h id
  · exact h
theorem delIf_slots (M : Md) (L : List Lv) (id : Nat) : (delIf M L id).slots = M.slots := by
  unfold delIf; split
  · exact md_slots_del M id
  · rfl
theorem delIf_find {M : Md} (h : M.Ok) (L : List Lv) (id x : Nat) : ((delIf M L id).find x).isSome = true ↔ ((M.find x).isSome = true ∧ (x = id → incL L id ≠ [])) := by
  unfold delIf; split
  · rename_i hn
    rw [find_del h]
    refine and_congr_right fun _ => ⟨fun h1 h2 => absurd h2 h1, fun h1 h2 => h1 h2 hn⟩
  · rename_i hn
    exact ⟨fun h1 => ⟨h1, fun _ => hn⟩, fun h1 => h1.1⟩
theorem ok_rem (h : s.Ok) {i : Nat} (hu : s.A.isUsed i) : (s.rem i).Ok := by
  obtain ⟨hm, hs⟩ := live_used h hu
  have hiff := Md.isUsed_put' hu
  have ho1 := delIf_ok h.md (s.L.filter fun e => e.slot != i) (liveAt s.L i).u
  refine ⟨ar_put_ok h.ar hu, h.sl, delIf_ok ho1 _ _, ?_, fun j => ?_, (List.Sublist.map _ List.filter_sublist).nodup h.one, h.seq.sublist List.filter_sublist, fun e he => h.last e (List.mem_filter.1 he).1, fun id => ?_, fun e he => h.ne e (List.mem_filter.1 he).1, fun e he => h.u64 e (List.mem_filter.1 he).1, h.leV, h.leE, h.lt⟩
  · simp only [rem, delIf_slots]; exact h.ms
  · simp only [rem]
    rw [hiff, h.used]
    simp only [List.mem_filter, bne_iff_ne]
    constructor
    · rintro ⟨⟨e, he, rfl⟩, hj⟩; exact ⟨e, ⟨he, hj⟩, rfl⟩
    · rintro ⟨e, ⟨he, hj⟩, rfl⟩; exact ⟨⟨e, he, rfl⟩, hj⟩
  · simp only [rem]
    rw [delIf_find ho1, delIf_find h.md, h.vert]
    constructor
    · rintro ⟨⟨h1, h2⟩, h3⟩
      by_cases e1 : id = (liveAt s.L i).u
      · rw [e1]; exact h2 e1
      · by_cases e2 : id = (liveAt s.L i).v
        · rw [e2]; exact h3 e2
        · intro e3
          apply h1
          refine List.eq_nil_iff_forall_not_mem.2 fun k hk => ?_
          rw [incL_filter] at e3
          have hki : k = i := by
            apply Classical.byContradiction
            intro hne
            have : k ∈ (incL s.L id).filter (· != i) := List.mem_filter.2 ⟨hk, by simpa using hne⟩
            rw [e3] at this; cases this
          subst hki
          obtain ⟨e, he, hat, hes⟩ := mem_incL.1 hk
          have : e = liveAt s.L k := by rw [← hes, liveAt_mem h.one he]
          subst this
          unfold Lv.at at hat
          simp only [Bool.or_eq_true, beq_iff_eq] at hat
          rcases hat with hat | hat
          · exact e1 hat.symm
          · exact e2 hat.symm
    · intro h1
      refine ⟨⟨fun e => h1 ?_, fun e => e ▸ h1⟩, fun e => e ▸ h1⟩
      rw [incL_filter, e]; rfl
end
end Sm
end Go.Proofs.YtbegdgnhpklceaaGreat

namespace Go.Proofs.YtbegdgnhpklceaaGreat
open Go.RowKit Go.Maps

def tokR (ok : Value → Bool) (v : Value) : Option (DataW Value × List MemPlace) := if ok v then some (.held v, []) else none
theorem tokR_mk {ok : Value → Bool} {v : Value} (h : ok v = true) : tokR ok v = some (.held v, []) := by simp [tokR, h]
theorem tokR_inv {ok : Value → Bool} {v u : Value} {ps : List MemPlace} (h : tokR ok v = some (.held u, ps)) : v = u := by
  unfold tokR at h
  split at h
  · simp only [Option.some.injEq, Prod.mk.injEq, DataW.held.injEq] at h; exact h.1
  · cases h

theorem ownsMap_tight {H : Type} {w : World} {P : Program} {k : TypeId} {R : Value → Option (DataW H × List MemPlace)} {b n : Nat} {D : DataW H} (h : w.ownsMap P k R b n D) : w.ownsMap P k R b (Maps.size D) D := by
  obtain ⟨es, clock, hb, F, _, rfl⟩ := h
  exact ⟨es, clock, hb, F, by simp [Maps.size, length_sorted], rfl⟩
theorem ownsMap_same {H : Type} {w w' : World} {P : Program} {k : TypeId} {R : Value → Option (DataW H × List MemPlace)} {b n : Nat} {D : DataW H} (h : w.ownsMap P k R b n D) (e : w'.heap[b]? = w.heap[b]?) : w'.ownsMap P k R b n D := by
  obtain ⟨es, clock, hb, r⟩ := h
  exact ⟨es, clock, e.trans hb, r⟩

def updM (m : Int → Option Value) (a : Int) (v : Option Value) : Int → Option Value := fun x => if x = a then v else m x
theorem updM_same (m : Int → Option Value) (a : Int) (v : Option Value) : updM m a v a = v := by simp [updM]
theorem updM_other {m : Int → Option Value} {a x : Int} {v : Option Value} (h : x ≠ a) : updM m a v x = m x := by simp [updM, h]

def IMap (P : Program) (k : TypeId) (q : IntKind) (ok : Value → Bool) (w : World) (b : Nat) (m : Int → Option Value) (n : Nat) : Prop :=
  ∃ D : DataW Value, w.ownsMap P k (tokR ok) b n D ∧ Tidy D ∧ Maps.size D = n ∧
    ∀ a : Int, (Lit.int q a).wf = true → (Maps.has D (.int q a) = (m a).isSome ∧ ∀ v, m a = some v → ok v = true ∧ ∀ z, D.atKey (.int q a) z = .held v)

section
variable {P : Program} {k t e : TypeId} {q : IntKind} {ok : Value → Bool} {w w' : World} {b n : Nat} {m : Int → Option Value}
theorem IMap.same (h : IMap P k q ok w b m n) (he : w'.heap[b]? = w.heap[b]?) : IMap P k q ok w' b m n := by
  obtain ⟨D, h1, h2⟩ := h
  exact ⟨D, ownsMap_same h1 he, h2⟩
theorem IMap.lt (h : IMap P k q ok w b m n) : b < w.heap.size := by obtain ⟨D, h1, _⟩ := h; exact h1.lt
theorem IMap.made (w : World) (P : Program) (k : TypeId) (q : IntKind) (ok : Value → Bool) : IMap P k q ok (w.alloc (.map #[] 0)) w.heap.size (fun _ => none) 0 :=
  ⟨_, World.ownsMap_made w P k (tokR ok), tidy_empty, rfl, fun _ _ => ⟨rfl, fun _ h => by cases h⟩⟩

theorem IMap.run_get (h : IMap P k q ok w b m n) (hk : P.underlying k = some (.int q)) (ht : P.underlying t = some (.map k e)) {z : Value} (hz : (zeroValue e).run P w = .ok z w) (hzo : ok z = true) {a : Int} (ha : (Lit.int q a).wf = true) :
    (Instr.lookup t (.map (some b)) (.int q a) false).run P w = .ok ((m a).getD z) w := by
  obtain ⟨D, h1, h2, _, h3⟩ := h
  obtain ⟨v, ps, hr, hv⟩ := h1.lookup (int_keyed hk) ht hz (tokR_mk hzo) (keyOf_int_mk hk ha)
  rw [hr]
  cases hm : m a with
  | some u =>
    rw [((h3 a ha).2 u hm).2] at hv
    rw [tokR_inv hv]; rfl
  | none =>
    have hn := (h3 a ha).1
    rw [hm] at hn
    rw [atKey_of_not_has hn] at hv
    rw [tokR_inv hv]; rfl
theorem IMap.run_ok (h : IMap P k q ok w b m n) (hk : P.underlying k = some (.int q)) (ht : P.underlying t = some (.map k e)) {z : Value} (hz : (zeroValue e).run P w = .ok z w) (hzo : ok z = true) {a : Int} (ha : (Lit.int q a).wf = true) :
    (Instr.lookup t (.map (some b)) (.int q a) true).run P w = .ok (.tuple #[(m a).getD z, .bool (m a).isSome]) w := by
  obtain ⟨D, h1, h2, _, h3⟩ := h
  obtain ⟨v, ps, hr, hv⟩ := h1.look_ok (int_keyed hk) ht hz (tokR_mk hzo) (keyOf_int_mk hk ha)
  rw [hr, (h3 a ha).1]
  cases hm : m a with
  | some u =>
    rw [((h3 a ha).2 u hm).2] at hv
    rw [tokR_inv hv]; rfl
  | none =>
    have hn := (h3 a ha).1
    rw [hm] at hn
    rw [atKey_of_not_has hn] at hv
    rw [tokR_inv hv]; rfl
theorem IMap.run_len (h : IMap P k q ok w b m n) (ht : P.underlying t = some (.map k e)) (ty : TypeId) : (Builtin.len_ #[t] ty #[.map (some b)]).run P w = .ok (.int .i64 n) w := by
  obtain ⟨D, h1, _, hn, _⟩ := h
  rw [h1.len ht ty, hn]

theorem Fr.of_turned (h : w.mapTurned w' b) : Fr [b] w w' := (Fr.refl [b] w).grown h.grown (fun k e => .inl (by simp at e; simp [e]))

theorem keyLit_int (q : IntKind) (a : Int) : WideAt.IsKeyLit (.int q a) := trivial

theorem IMap.put (h : IMap P k q ok w b m n) (hk : P.underlying k = some (.int q)) (ht : P.underlying t = some (.map k e)) (hn : n < maxLen) {a : Int} (ha : (Lit.int q a).wf = true) {v : Value} (hv : ok v = true) :
    ∃ w', (Instr.mapUpdate t (.map (some b)) (.int q a) v).run P w = .ok () w' ∧ IMap P k q ok w' b (updM m a (some v)) (if (m a).isSome then n else n + 1) ∧ Fr [b] w w' := by
  obtain ⟨D, h1, h2, hs, h3⟩ := h
  obtain ⟨w', hr, h1', hT⟩ := h1.store (int_keyed hk) ht hn (keyOf_int_mk hk ha) (tokR_mk hv)
  refine ⟨w', hr, ⟨D.put (.int q a) (.held v), ?_, h2.put (keyLit_int q a) _, ?_, fun x hx => ?_⟩, Fr.of_turned hT⟩
  · have := ownsMap_tight h1'
    rw [size_put h2, (h3 a ha).1, hs] at this
    exact this
  · rw [size_put h2, (h3 a ha).1, hs]
  · by_cases e : x = a
    · subst e
      rw [updM_same]
      refine ⟨has_put_same h2.isMap (keyLit_int q x) _, fun u hu => ?_⟩
      cases hu
      exact ⟨hv, fun z => atKey_put_same h2.isMap (keyLit_int q x) _ z⟩
    · have hne : (Lit.int q x) ≠ .int q a := fun h => e (by injection h)
      rw [updM_other e, has_put_other hne]
      exact ⟨(h3 x hx).1, fun u hu => ⟨((h3 x hx).2 u hu).1, fun z => by rw [atKey_put_other hne]; exact ((h3 x hx).2 u hu).2 z⟩⟩
theorem IMap.del (h : IMap P k q ok w b m n) (hk : P.underlying k = some (.int q)) (ht : P.underlying t = some (.map k e)) {a : Int} (ha : (Lit.int q a).wf = true) (ty : TypeId) :
    ∃ w', (Builtin.delete_ #[t, k] ty #[.map (some b), .int q a]).run P w = .ok (.tuple #[]) w' ∧ IMap P k q ok w' b (updM m a none) (if (m a).isSome then n - 1 else n) ∧ Fr [b] w w' := by
  obtain ⟨D, h1, h2, hs, h3⟩ := h
  obtain ⟨w', hr, h1', hT⟩ := h1.drop (int_keyed hk) ht (keyOf_int_mk hk ha) ty
  have hsz : Maps.size (D.del (.int q a)) = if (m a).isSome then n - 1 else n := by
    have := size_del (k := .int q a) h2
    rw [(h3 a ha).1, hs] at this
    cases hm : (m a).isSome <;> rw [hm] at this <;> simp at this ⊢ <;> omega
  refine ⟨w', hr, ⟨D.del (.int q a), ?_, h2.del _, hsz, fun x hx => ?_⟩, Fr.of_turned hT⟩
  · have := ownsMap_tight h1'
    rw [hsz] at this
    exact this
  · by_cases e : x = a
    · subst e
      rw [updM_same]
      exact ⟨has_del_same, fun u hu => by cases hu⟩
    · have hne : (Lit.int q x) ≠ .int q a := fun h => e (by injection h)
      rw [updM_other e, has_del_other hne]
      exact ⟨(h3 x hx).1, fun u hu => ⟨((h3 x hx).2 u hu).1, fun z => by rw [atKey_del_other hne]; exact ((h3 x hx).2 u hu).2 z⟩⟩
end

/-- 'm[a] = v'. -/
theorem wpList_imap_put {P : Program} {w : World} {ops : Array Oper} {rest : List Oper} {o : Oper} {act : Act} {Q : Exit → Act → World → Prop} (hg : o.guard = none) (mo x v : Operand) (t : TypeId) (hop : o.op = Op.mapUpdate t mo x v)
    {k e : TypeId} {q : IntKind} {ok : Value → Bool} {b n : Nat} {m : Int → Option Value} (h : IMap P k q ok w b m n) (hk : P.underlying k = some (.int q)) (ht : P.underlying t = some (.map k e)) (hn : n < maxLen)
    (hm : act.eval mo = .map (some b)) (a : Int) (hx : act.eval x = .int q a) (ha : (Lit.int q a).wf = true) (u : Value) (hv : act.eval v = u) (hu : ok u = true)
    (hK : ∀ w', IMap P k q ok w' b (updM m a (some u)) (if (m a).isSome then n else n + 1) → Fr [b] w w' → wpList P ops Q rest (act.put o.dst undef) w') : wpList P ops Q (o :: rest) act w := by
  refine wpList_plain hg fun K' hK' => ?_
  obtain ⟨w', hrun, r1, r2⟩ := h.put hk ht hn ha hu
  unfold Oper.wp
  simp [execOp, hop, hm, hx, hv, hrun, Result.andThen]
  exact hK' _ _ (hK w' r1 r2)
/-- 'delete(m, a)'. -/
theorem wpList_imap_del {P : Program} {w : World} {ops : Array Oper} {rest : List Oper} {o : Oper} {act : Act} {Q : Exit → Act → World → Prop} (hg : o.guard = none) (mo x : Operand) (t k : TypeId) (hop : o.op = Op.call { callee := Callee.builtin Builtin.delete, args := #[mo, x], argTypes := #[t, k] })
    {e : TypeId} {q : IntKind} {ok : Value → Bool} {b n : Nat} {m : Int → Option Value} (h : IMap P k q ok w b m n) (hk : P.underlying k = some (.int q)) (ht : P.underlying t = some (.map k e))
    (hm : act.eval mo = .map (some b)) (a : Int) (hx : act.eval x = .int q a) (ha : (Lit.int q a).wf = true)
    (hK : ∀ w', IMap P k q ok w' b (updM m a none) (if (m a).isSome then n - 1 else n) → Fr [b] w w' → wpList P ops Q rest (act.put o.dst (.tuple #[])) w') : wpList P ops Q (o :: rest) act w := by
  refine wpList_plain hg fun K' hK' => ?_
  obtain ⟨w', hrun, r1, r2⟩ := h.del hk ht ha o.type
  unfold Oper.wp
  simp [execOp, hop, resolve, invoke, builtin, hm, hx, hrun, Result.andThen]
  exact hK' _ _ (hK w' r1 r2)
end Go.Proofs.YtbegdgnhpklceaaGreat
