/- A table and the document's: what both show of an id and an index (agree); List and Copy over the plain model. -/
import Derived.Test.YtciacnnelpijeaaInternCopiesZ10
import Derived.Test.YtciacnnelpijeaaInternCopiesZ4
import Derived.Test.YtciacnnelpijeaaInternCopiesZ5
import Derived.Test.YtciacnnelpijeaaInternCopiesZ1
/- The document's table: Del. -/
namespace Go.Proofs.Ytciacnnelpijeaa
open Go.RowKit
set_option maxRecDepth 10000
set_option maxHeartbeats 800000

/-- The first i of a list without number k. -/
def woK (L : List (Nat × Nat)) (k i : Nat) : List (Nat × Nat) := (L.take i).eraseIdx k
section
variable {L : List (Nat × Nat)}
theorem woK_zero (k : Nat) : woK L k 0 = [] := by simp [woK]
theorem woK_len (k i : Nat) : (woK L k i).length ≤ i := by
  unfold woK
  rw [List.length_eraseIdx]
  simp only [List.length_take]
  split <;> omega
theorem woK_ne {k i : Nat} (hi : i < L.length) (hne : i ≠ k) : woK L k (i + 1) = woK L k i ++ [L[i]] := by
  unfold woK
  have e : L.take (i + 1) = L.take i ++ [L[i]] := by rw [List.take_add_one, List.getElem?_eq_getElem hi]; rfl
  have hl : (L.take i).length = i := by simp; omega
  rw [e]
  by_cases h : k < i
  · rw [List.eraseIdx_append_of_lt_length (by omega)]
  · rw [List.eraseIdx_of_length_le (by simp; omega), List.eraseIdx_of_length_le (by simp; omega)]
theorem woK_eq {k : Nat} (hk : k < L.length) : woK L k (k + 1) = woK L k k := by
  unfold woK
  have e : L.take (k + 1) = L.take k ++ [L[k]] := by rw [List.take_add_one, List.getElem?_eq_getElem hk]; rfl
  have hl : (L.take k).length = k := by simp; omega
  rw [e, List.eraseIdx_append_of_length_le (by omega), hl, List.eraseIdx_of_length_le (l := L.take k) (by omega)]
  simp
theorem woK_all (k : Nat) : woK L k L.length = L.eraseIdx k := by simp [woK]
theorem filter_erase (hnd : (L.map (·.1)).Nodup) {k id : Nat} (hk : k < L.length) (he : L[k].1 = id) : L.filter (fun x => x.1 != id) = L.eraseIdx k := by
  induction L generalizing k with
  | nil => simp at hk
  | cons a r ih =>
    simp only [List.map_cons, List.nodup_cons] at hnd
    cases k with
    | zero =>
      simp only [List.getElem_cons_zero] at he
      subst he
      have : r.filter (fun x => x.1 != a.1) = r := List.filter_eq_self.2 (fun x hx => by
        simp only [bne_iff_ne]; intro e; exact hnd.1 (List.mem_map.2 ⟨x, hx, e⟩))
      rw [List.filter_cons_of_neg (by simp), this]; rfl
    | succ k =>
      simp only [List.getElem_cons_succ] at he
      have hne : a.1 ≠ id := by
        rintro rfl; exact hnd.1 (List.mem_map.2 ⟨_, List.getElem_mem (by simpa using hk), he⟩)
      rw [List.filter_cons_of_pos (by simpa using hne), ih hnd.2 (by simpa using hk) he]; rfl
end

section
variable {w w' : World} {pr : Nat} {vL vF : Value} {M : Md}

theorem RTab.addF (h : RTab w pr vL vF M) {w4 : World} {g' cap' i : Nat} (box : Obj)
    (hown : w4.ownsRow 0 3 1 (.slice (some ⟨g', 0, none⟩) (M.free.length + 1) cap') (M.free.length + 1) (encN M.free.reverse ++ [.int .i64 i]))
    (hgrow : (w.alloc box).grownBy w4 vF.ownBlock) (hg : vF.ownBlock = some g' ∨ (w.alloc box).heap.size ≤ g') :
    RTab (w4.setCell ⟨pr, 3, none⟩ (.slice (some ⟨g', 0, none⟩) (M.free.length + 1) cap')) pr vL (.slice (some ⟨g', 0, none⟩) (M.free.length + 1) cap') { M with free := i :: M.free } ∧
      Fr (rTB pr vL vF) w (w4.setCell ⟨pr, 3, none⟩ (.slice (some ⟨g', 0, none⟩) (M.free.length + 1) cap')) ∧ ∀ q ∈ rTB pr vL (.slice (some ⟨g', 0, none⟩) (M.free.length + 1) cap'), q ∈ rTB pr vL vF ∨ w.heap.size ≤ q := by
  have hlp := h.hd.lt
  simp only [World.size_alloc] at hg
  have hF4 : Fr vF.ownBlock.toList w w4 := ((Fr.refl _ _).alloc _).grown hgrow (fun q e => .inl (by simp [e]))
  have hd4 : Blk w4 pr 75 [.bool true, .int .i64 M.slots, vL, vF, .int .i64 M.given] := hF4.blk h.hd (fun hm => h.apF (by simpa using hm))
  have hg' : g' ≠ pr := by
    rintro rfl
    rcases hg with e | e
    · exact h.apF e
    · omega
  refine ⟨⟨hd4.set 3 _, ?_, ?_, h.apL, ?_, ?_⟩, ?_, ?_⟩
  · exact ownsRow_other (ownsRow_same h.items (fun q hq => hF4.keep q (h.items.lt q hq).2 (fun hm => h.apLF q hq (by simpa using hm)))) _ _ h.apL
  · have e : encN (i :: M.free).reverse = encN M.free.reverse ++ [.int .i64 i] := by simp [encN]
    simp only [List.length_cons, e]
    exact ownsRow_other hown _ _ (by simpa [Value.ownBlock] using hg')
  · simpa [Value.ownBlock] using hg'
  · intro q hq e
    simp only [Value.ownBlock, Option.some.injEq] at e
    subst e
    rcases hg with hh | hh
    · exact h.apLF _ hq hh
    · have := (h.items.lt _ hq).2; omega
  · refine (hF4.mono (fun q hq => .inl ?_)).setCell _ _ (.inl (by simp [rTB]))
    simp only [rTB, List.mem_cons, List.mem_append]; exact .inr (.inr hq)
  · intro q hq
    have e1 : (Value.slice (some ⟨g', 0, none⟩) (M.free.length + 1) cap').ownBlock = some g' := rfl
    simp only [rTB, e1, Option.toList_some, List.mem_append, List.mem_cons, List.not_mem_nil, or_false] at hq ⊢
    rcases hq with rfl | hq | rfl
    · exact .inl (.inl rfl)
    · exact .inl (.inr (.inl hq))
    · rcases hg with e | e
      · exact .inl (.inr (.inr (by rw [e]; simp)))
      · exact .inr (by omega)

theorem rdel_w (h : RTab w pr vL vF M) (hok : M.Ok) (id : Nat) :
    Calls Try.prog 29 #[ptr pr, .int .u64 id] w fun e w' => e = .returned (.int .i64 (M.del id).err) ∧
      ∃ vL' vF', RTab w' pr vL' vF' (M.del id).M ∧ Fr (rTB pr vL vF) w w' ∧ ∀ q ∈ rTB pr vL' vF', q ∈ rTB pr vL vF ∨ w.heap.size ≤ q := by
  have hcnt := hok.cnt
  have hb := hok.ar.hb
  have hs := hok.ar.hs
  simp only [Md.ar] at hb hs
  have HV := Lib.hid (rvalid_w h)
  have HF := Lib.hid (rfind_w h (by omega) id)
  have Hids := Lib.hid hok.ids
  obtain ⟨a2, cap2, rfl⟩ := h.slL
  obtain ⟨a3, cap3, rfl⟩ := h.slF
  clear hok
  have HR := Lib.hid h; clear h
  generalize hP : M.del id = P at *
  have HP := Lib.hid hP; clear hP
  go_enter Try.func29, Try.ntmps29
  go_wp2_with fail
  refine HV.out.mono ?_
  rintro _ w ⟨rfl, rfl⟩
  go_wp2_with fail
  refine HF.out.mono ?_
  rintro _ w ⟨rfl, hr⟩
  clear HF HV
  have c2 := HR.out.hd.cell 2
  have c3 := HR.out.hd.cell 3
  have f3 := HR.out.hd.frozen 3
  simp only [List.getElem?_cons_zero, List.getElem?_cons_succ] at c2 c3
  rcases hr with ⟨rfl, hn⟩ | ⟨k, hk, rfl, he⟩
  · have hp : P = ⟨5, M⟩ := by rw [← HP.out]; unfold Md.del; rw [hn]
    have Hp := Lib.hid hp; clear hp
    have t2 : decide ((-1 : Int) < 0) = true := by decide
    clear hn
    go_wp2
    go_ret
    rw [Hp.out]
    exact ⟨rfl, _, _, HR.out, Fr.refl _ _, fun q hq => .inl hq⟩
  · have hf := Md.mem_find Hids.out (show (id, M.L[k].2) ∈ M.L by rw [← he]; exact List.getElem_mem hk)
    have hp : P = ⟨0, { M with L := M.L.eraseIdx k, free := M.L[k].2 :: M.free }⟩ := by
      rw [← HP.out]; unfold Md.del; rw [hf]; simp only [Md.rem, filter_erase Hids.out hk he]
    have Hp := Lib.hid hp; clear hp hf he Hids HP
    have hk0 : decide ((k : Int) < 0) = false := decide_eq_false (by omega)
    obtain ⟨b, cap, e, hb, q0, q1⟩ := item_at HR.out.items hk
    simp only [Value.slice.injEq, true_and] at e
    obtain ⟨rfl, rfl⟩ := e
    have hj1 : (k : Int) < M.L.length := by omega
    have hj0 : (0 : Int) ≤ k := by omega
    clear q0
    generalize M.L[k].2 = x at *
    have e3 : (w.alloc (.cells #[.int .i64 (x : Int)] 3)).cell? ⟨pr, 3, none⟩ = some (.slice a3 M.free.length cap3) := ((Fr.refl [] w).alloc _).cell c3 (by simp)
    have hfl : M.free.length ≤ 65536 := by omega
    have hLl : M.L.length ≤ 65536 := by omega
    clear hcnt
    go_wp2
    go_region_law (first | (refine step_appK (by rfl) _ _ _ (by rfl) 3 (.int .i64 0) 1 8 Try.underlying38 Try.info3 rfl (by decide) (.slice a3 M.free.length cap3) M.free.length _ (by rfl) ((HR.out.free.alloc (.cells #[.int .i64 (x : Int)] 3)).drew) w.heap.size 3 [.int .i64 x] (by rfl) ((Blk.new w [.int .i64 x] 3).drew) rfl (by simp [Value.oneCell']) (by omega) (by decide) ?_; intro g' cap' w4 hown4 hgrow4 hg4; have hk4 := ((((Fr.refl _ w).alloc (.cells #[.int .i64 (x : Int)] 3)).drew).grown (S := (Value.slice a3 M.free.length cap3).ownBlock.toList) hgrow4 (fun q e => .inl (by simp [e]))).blk HR.out.hd (fun hm => HR.out.apF (by simpa using hm)); have y4 := hk4.cell 3; have z4 := hk4.frozen 3; simp only [List.getElem?_cons_zero, List.getElem?_cons_succ] at y4))
    all_goals
      have hgrow4' : (w.alloc (.cells #[.int .i64 (x : Int)] 3)).grownBy w4 (Value.slice a3 M.free.length cap3).ownBlock := ⟨hgrow4.os, hgrow4.tape, hgrow4.output, hgrow4.size, hgrow4.block⟩
      obtain ⟨hR4, hF4, hq4⟩ := RTab.addF HR.out _ hown4 hgrow4' hg4
      have HR4 := Lib.hid hR4
      have HF4 := Lib.hid (And.intro hF4 hq4)
      clear hR4 hF4 hq4 hown4 hgrow4 hgrow4' hg4 hk4 y4 z4 e3 c2 c3 f3 q1
      generalize hw5 : w4.setCell ⟨pr, 3, none⟩ (.slice (some ⟨g', 0, none⟩) (M.free.length + 1) cap') = w5 at *
      clear hw5
      go_wp2
      go_loopw [6, 7] (fun v sy wr => ∃ j : Nat, j ≤ M.L.length ∧ sy = .int .i64 j ∧ Hid (Fr [] w5 wr) ∧ wr.ownsRow 0 83 2 v (woK M.L k j).length (itemCells (woK M.L k j)) ∧ Hid (∀ q, v.ownBlock = some q → w5.heap.size ≤ q)) (fun _ sy _ => M.L.length - (intOf sy).toNat)
      case atStart => exact ⟨0, Nat.zero_le _, rfl, Lib.hid (Fr.refl _ _), by rw [woK_zero]; exact World.ownsRow_nil _ _ _ _, Lib.hid (fun q e => by cases e)⟩
      case round =>
        obtain ⟨j, hj, rfl, HF, hown, HQ⟩ := hrel
        obtain ⟨a8, c8, rfl⟩ := ownsRow_slice hown
        have HRr := Lib.hid (HR4.out.fr0 HF.out)
        have c2 := HRr.out.hd.cell 2
        simp only [List.getElem?_cons_zero, List.getElem?_cons_succ] at c2
        by_cases hjK : j < M.L.length
        · have hjl : (j : Int) < M.L.length := by omega
          have hjz : (0 : Int) ≤ j := by omega
          have hwl := woK_len (L := M.L) k j
          by_cases hjk : j = k
          · subst hjk
            have hb : ((j : Int) != (j : Int)) = false := by simp
            have Hw := Lib.hid (woK_eq hk)
            go_wp2
            go_roundw
            case rel => exact ⟨j + 1, by omega, by go_num, HF, by rw [Hw.out]; exact hown, HQ⟩
            case measure => simp [intOf]; omega
          · have hb : ((j : Int) != (k : Int)) = true := by simp; omega
            have Hw := Lib.hid (woK_ne hjK hjk)
            obtain ⟨b9, cap9, e, hb9, q0, q1⟩ := item_at HRr.out.items hjK
            simp only [Value.slice.injEq, Option.some.injEq, Addr.mk.injEq, and_true, true_and] at e
            obtain ⟨rfl, rfl⟩ := e
            have hpq : M.L[j] = (M.L[j].1, M.L[j].2) := rfl
            have Hpq := Lib.hid hpq; clear hpq
            generalize (M.L[j]'hjK).1 = y0 at *
            generalize (M.L[j]'hjK).2 = y1 at *
            generalize hW : woK M.L k j = Wk at *
            clear hW
            clear hjk
            go_wp2_with (at_builtin; refine wpList_appK rfl _ _ 73 rfl 83 itemZ 2 16 Try.underlying73 Try.infoItem rfl (by decide) (.slice a8 Wk.length c8) Wk.length _ rfl (hown.alloc _) wr.heap.size 83 [.int .u64 y0, .int .i64 y1] rfl (Blk.new wr [.int .u64 y0, .int .i64 y1] 83) rfl (by simp [Value.oneCell']) (by omega) (by decide) ?_; intro g9 cap9 w9 hown9 hgrow9 hg9; have hF9 : Fr (Value.slice a8 Wk.length c8).ownBlock.toList wr w9 := ((Fr.refl _ _).alloc _).grown hgrow9 (fun q e => .inl (by simp [e])))
            go_roundw
            case rel =>
              have hs := HF.out.size
              simp only [World.size_alloc] at hg9
              refine ⟨j + 1, by omega, by go_num, Lib.hid (HF.out.trans hF9 (fun q hq => .inr (HQ.out q (by simpa using hq)))), ?_, Lib.hid (fun q e => ?_)⟩
              · rw [Hw.out, Hpq.out, itemCells_snoc, List.length_append]
                exact hown9
              · simp only [Value.ownBlock, Option.some.injEq] at e
                subst e
                rcases hg9 with e | e
                · exact HQ.out _ e
                · omega
            case measure => simp [intOf]; omega
        · obtain rfl : j = M.L.length := by omega
          rw [woK_all] at hown HQ ⊢
          have Hown := Lib.hid hown; clear hown
          have fz := HRr.out.hd.frozen 2
          go_wp2
          go_ret
          rw [Hp.out]
          have hlp := HR4.out.hd.lt
          have hws := HF4.out.1.size
          have hnp : (Value.slice a8 (M.L.eraseIdx k).length c8).ownBlock ≠ some pr := fun e => by have := HQ.out pr e; omega
          have hRz : RTab (wr.setCell ⟨pr, 2, none⟩ (.slice a8 (M.L.eraseIdx k).length c8)) pr (.slice a8 (M.L.eraseIdx k).length c8) (.slice (some ⟨g', 0, none⟩) (M.free.length + 1) cap') { M with L := M.L.eraseIdx k, free := x :: M.free } :=
            ⟨HRr.out.hd.set 2 _, ownsRow_other Hown.out _ _ hnp, ownsRow_other HRr.out.free _ _ HRr.out.apF, hnp, HRr.out.apF, fun q hq e => by
              have h1 := HQ.out q hq
              have h2 := (HR4.out.free.lt q e).2
              omega⟩
          refine ⟨rfl, _, _, hRz, (HF4.out.1.trans' (HF.out.mono (by simp))).setCell _ _ (.inl (by simp [rTB])), fun q hq => ?_⟩
          simp only [rTB, List.mem_cons, List.mem_append, Option.mem_toList] at hq
          rcases hq with hq | hq | hq
          · exact .inl (by simp [rTB, hq])
          · have := HQ.out q hq; exact .inr (by omega)
          · exact HF4.out.2 q (by simp only [rTB, List.mem_cons, List.mem_append, Option.mem_toList]; exact .inr (.inr hq))
end
end Go.Proofs.Ytciacnnelpijeaa

/- The document's table: Copy. -/
namespace Go.Proofs.Ytciacnnelpijeaa
open Go.RowKit
set_option maxRecDepth 10000
set_option maxHeartbeats 1600000

theorem Fr.fresh {w0 w w' : World} {g : Nat} (h : Fr [] w0 w) (k : Fr [g] w w') (hg : w0.heap.size ≤ g) : Fr [] w0 w' :=
  h.trans k (fun b hb => by simp at hb; subst hb; exact .inr hg)

section
variable {w w' : World} {pr : Nat} {vL vF : Value} {M : Md}
theorem rcopy_w (h : RTab w pr vL vF M) (hok : M.Ok) :
    Calls Try.prog 30 #[ptr pr] w fun e w' => ∃ pr' vL' vF', e = .returned (ptr pr') ∧ RTab w' pr' vL' vF' M ∧ Fr [] w w' ∧ ∀ q ∈ rTB pr' vL' vF', w.heap.size ≤ q := by
  have hcnt := hok.cnt
  have hb := hok.ar.hb
  have hs := hok.ar.hs
  simp only [Md.ar] at hb hs
  have HV := Lib.hid (rvalid_w h)
  obtain ⟨a2, cap2, rfl⟩ := h.slL
  obtain ⟨a3, cap3, rfl⟩ := h.slF
  clear hok
  have hfl : M.free.length ≤ 65536 := by omega
  have hLl : M.L.length ≤ 65536 := by omega
  clear hcnt
  have HR := Lib.hid h; clear h
  go_enter Try.func30, Try.ntmps30
  go_wp2_with fail
  refine HV.out.mono ?_
  rintro _ w ⟨rfl, rfl⟩
  have c1 := HR.out.hd.cell 1
  have c2 := HR.out.hd.cell 2
  have c3 := HR.out.hd.cell 3
  have c4 := HR.out.hd.cell 4
  simp only [List.getElem?_cons_zero, List.getElem?_cons_succ] at c1 c2 c3 c4
  have HC : Hid (∀ w' : World, Fr [] w w' → w'.cell? ⟨pr, 1, none⟩ = some (.int .i64 M.slots) ∧ w'.cell? ⟨pr, 2, none⟩ = some (.slice a2 M.L.length cap2) ∧ w'.cell? ⟨pr, 3, none⟩ = some (.slice a3 M.free.length cap3) ∧ w'.cell? ⟨pr, 4, none⟩ = some (.int .i64 M.given)) :=
    Lib.hid (fun w' hf => ⟨hf.cell c1 (by simp), hf.cell c2 (by simp), hf.cell c3 (by simp), hf.cell c4 (by simp)⟩)
  have HRL : Hid (∀ w' : World, Fr [] w w' → w'.ownsRow 0 83 2 (.slice a2 M.L.length cap2) M.L.length (itemCells M.L)) := Lib.hid (fun w' hf => (HR.out.fr0 hf).items)
  have HRF : Hid (∀ w' : World, Fr [] w w' → w'.ownsRow 0 3 1 (.slice a3 M.free.length cap3) M.free.length (encN M.free.reverse)) := Lib.hid (fun w' hf => (HR.out.fr0 hf).free)
  clear HR HV
  go_wp2
  go_region_held3 (fun w' => w'.cell? ⟨pr, 1, none⟩ = some (.int .i64 M.slots) ∧ w'.cell? ⟨pr, 2, none⟩ = some (.slice a2 M.L.length cap2) ∧ w'.cell? ⟨pr, 3, none⟩ = some (.slice a3 M.free.length cap3) ∧ w'.cell? ⟨pr, 4, none⟩ = some (.int .i64 M.given))
    (first
      | go_keep
      | (exact HC.out _ hfr4)
      | (exact HC.out _ hfr5)
      | (exact HC.out _ (hfr4.alloc _))
      | (exact HC.out _ (hfr5.alloc _))
      | (exact HC.out _ ((Fr.refl [] w).alloc _))
      | (exact HC.out _ (((Fr.refl [] w).alloc _).alloc _))
      | (exact HC.out _ (((Fr.refl [] w).alloc _).drew))
      | (exact HC.out _ ((((Fr.refl [] w).alloc _).alloc _).drew)))
    (first
      | (refine step_app_mt (by rfl) _ _ _ (by rfl) 83 itemZ 2 16 Try.underlying73 Try.infoItem rfl (by decide) _ (by rfl)
          (by first | (refine (Blk.new' _ [] _ ?_).drew; first | rfl | (simp; done)) | (refine ((Blk.new' _ [] _ ?_).alloc _).drew; first | rfl | (simp; done)) | (refine Blk.new' _ [] _ ?_; first | rfl | (simp; done)) | (refine hF5.blk ((Blk.new' _ [] _ ?_).drew) ?_ <;> (first | rfl | (simp; done))) | (refine hF5.blk (((Blk.new' _ [] _ ?_).alloc _).drew) ?_ <;> (first | rfl | (simp; done))))
          (.slice a2 M.L.length cap2) M.L.length (itemCells M.L) (by rfl)
          (HRL.out _ (by first | exact ((Fr.refl [] w).alloc _).drew | exact (((Fr.refl [] w).alloc _).alloc _).drew | exact hfr5 | exact hfr5.alloc _))
          (itemCells_one _) (by unfold maxLen; omega) (by omega) ?_; intro v4 w4 hown4 hF4 hq4
         obtain ⟨av4, cv4, rfl⟩ := ownsRow_slice hown4
         have hfr4 : Fr [] w w4 := (by first | (refine ((((Fr.refl [] w).alloc _).drew)).fresh hF4 ?_; first | exact Nat.le_refl _ | omega | (simp; done) | (have := hfr5.size; first | omega | (simp; omega))) | (refine (((((Fr.refl [] w).alloc _).alloc _).drew)).fresh hF4 ?_; first | exact Nat.le_refl _ | omega | (simp; done) | (have := hfr5.size; first | omega | (simp; omega))) | (refine (hfr5).fresh hF4 ?_; first | exact Nat.le_refl _ | omega | (simp; done) | (have := hfr5.size; first | omega | (simp; omega))) | (refine ((hfr5.alloc _)).fresh hF4 ?_; first | exact Nat.le_refl _ | omega | (simp; done) | (have := hfr5.size; first | omega | (simp; omega)))))
      | (refine step_app_mt (by rfl) _ _ _ (by rfl) 3 (.int .i64 0) 1 8 Try.underlying38 Try.info3 rfl (by decide) _ (by rfl)
          (by first | (refine (Blk.new' _ [] _ ?_).drew; first | rfl | (simp; done)) | (refine ((Blk.new' _ [] _ ?_).alloc _).drew; first | rfl | (simp; done)) | (refine Blk.new' _ [] _ ?_; first | rfl | (simp; done)) | (refine hF4.blk ((Blk.new' _ [] _ ?_).drew) ?_ <;> (first | rfl | (simp; done))) | (refine hF4.blk (((Blk.new' _ [] _ ?_).alloc _).drew) ?_ <;> (first | rfl | (simp; done))))
          (.slice a3 M.free.length cap3) M.free.length (encN M.free.reverse) (by rfl)
          (HRF.out _ (by first | exact ((Fr.refl [] w).alloc _).drew | exact (((Fr.refl [] w).alloc _).alloc _).drew | exact hfr4 | exact hfr4.alloc _))
          (by simp [encN, Value.oneCell']) (by unfold maxLen; omega) (by omega) ?_; intro v5 w5 hown5 hF5 hq5
         obtain ⟨av5, cv5, rfl⟩ := ownsRow_slice hown5
         have hfr5 : Fr [] w w5 := (by first | (refine ((((Fr.refl [] w).alloc _).drew)).fresh hF5 ?_; first | exact Nat.le_refl _ | omega | (simp; done) | (have := hfr4.size; first | omega | (simp; omega))) | (refine (((((Fr.refl [] w).alloc _).alloc _).drew)).fresh hF5 ?_; first | exact Nat.le_refl _ | omega | (simp; done) | (have := hfr4.size; first | omega | (simp; omega))) | (refine (hfr4).fresh hF5 ?_; first | exact Nat.le_refl _ | omega | (simp; done) | (have := hfr4.size; first | omega | (simp; omega))) | (refine ((hfr4.alloc _)).fresh hF5 ?_; first | exact Nat.le_refl _ | omega | (simp; done) | (have := hfr4.size; first | omega | (simp; omega))))))
  all_goals
    go_wp2
    go_ret
    have k4 : ∀ q, (Value.slice av4 M.L.length cv4).ownBlock = some q → w.heap.size ≤ q ∧ q < w4.heap.size := fun q hq => by
      have h1 := hq4 q hq
      have h2 := (hown4.lt q hq).2
      have h3 := hfr4.size
      try simp only [World.size_alloc, World.size_drew] at h1
      first | omega | (have h4 := hfr5.size; omega)
    have k5 : ∀ q, (Value.slice av5 M.free.length cv5).ownBlock = some q → w.heap.size ≤ q ∧ q < w5.heap.size := fun q hq => by
      have h1 := hq5 q hq
      have h2 := (hown5.lt q hq).2
      have h3 := hfr5.size
      try simp only [World.size_alloc] at h1
      first | omega | (have h4 := hfr4.size; omega)
    have k45 : ∀ q, (Value.slice av4 M.L.length cv4).ownBlock = some q → (Value.slice av5 M.free.length cv5).ownBlock ≠ some q := fun q hq e => by
      have h1 := hq5 q e
      have h2 := (hown5.lt q e).2
      have h3 := hq4 q hq
      have h4 := (hown4.lt q hq).2
      have h5 := hF4.size
      have h6 := hF5.size
      try simp only [World.size_alloc, World.size_drew] at h1 h3 h5 h6
      omega
    first
      | (have hA : w5.ownsRow 0 83 2 (.slice av4 M.L.length cv4) M.L.length (itemCells M.L) := by
          first
            | exact ownsRow_same hown4 (fun q hq => hF5.keep q (hown4.lt q hq).2 (by
                have h1 := hq4 q hq
                have h2 := (hown4.lt q hq).2
                have h5 := hF4.size
                try simp only [World.size_alloc, World.size_drew] at h1 h5
                simp; omega))
            | exact ownsRow_same (hown4.alloc _) (fun q hq => hF5.keep q (by have := (hown4.lt q hq).2; simp; omega) (by have := (hown4.lt q hq).2; simp; omega))
         have hb := Blk.new w5 [.bool true, .int .i64 M.slots, .slice av4 M.L.length cv4, .slice av5 M.free.length cv5, .int .i64 M.given] 75
         have hs4 : w4.heap.size ≤ w5.heap.size := by have h6 := hF5.size; simp only [World.size_alloc] at h6; omega
         refine ⟨_, _, _, rfl, ⟨hb, hA.alloc _, hown5.alloc _, fun e => by have := (k4 _ e).2; omega, fun e => by have := (k5 _ e).2; omega, k45⟩, hfr5.alloc _, fun q hq => ?_⟩
         simp only [rTB, List.mem_cons, List.mem_append, Option.mem_toList] at hq
         rcases hq with rfl | hq | hq
         · exact hfr5.size
         · exact (k4 q hq).1
         · exact (k5 q hq).1)
      | (have hA : w5.ownsRow 0 83 2 (.slice av4 M.L.length cv4) M.L.length (itemCells M.L) := by
          exact ownsRow_same hown4 (fun q hq => hF5.keep q (hown4.lt q hq).2 (by
                have h1 := hq4 q hq
                have h2 := (hown4.lt q hq).2
                have h5 := hF4.size
                try simp only [World.size_alloc, World.size_drew] at h1 h5
                simp; omega))
         have hb := Blk.new w5 [.bool true, .int .i64 M.slots, .slice av4 M.L.length cv4, .slice av5 M.free.length cv5, .int .i64 M.given] 75
         have hs4 : w4.heap.size ≤ w5.heap.size := hF5.size
         refine ⟨_, _, _, rfl, ⟨hb, hA.alloc _, hown5.alloc _, fun e => by have := (k4 _ e).2; omega, fun e => by have := (k5 _ e).2; omega, k45⟩, hfr5.alloc _, fun q hq => ?_⟩
         simp only [rTB, List.mem_cons, List.mem_append, Option.mem_toList] at hq
         rcases hq with rfl | hq | hq
         · exact hfr5.size
         · exact (k4 q hq).1
         · exact (k5 q hq).1)
      | (have hB : w4.ownsRow 0 3 1 (.slice av5 M.free.length cv5) M.free.length (encN M.free.reverse) := by
          first
            | exact ownsRow_same hown5 (fun q hq => hF4.keep q (hown5.lt q hq).2 (by
                have h1 := hq5 q hq
                have h2 := (hown5.lt q hq).2
                have h5 := hF5.size
                try simp only [World.size_alloc, World.size_drew] at h1 h5
                simp; omega))
            | exact ownsRow_same (hown5.alloc _) (fun q hq => hF4.keep q (by have := (hown5.lt q hq).2; simp; omega) (by have := (hown5.lt q hq).2; simp; omega))
         have hb := Blk.new w4 [.bool true, .int .i64 M.slots, .slice av4 M.L.length cv4, .slice av5 M.free.length cv5, .int .i64 M.given] 75
         have hs4 : w5.heap.size ≤ w4.heap.size := by have h6 := hF4.size; (try simp only [World.size_alloc, World.size_drew] at h6); omega
         refine ⟨_, _, _, rfl, ⟨hb, hown4.alloc _, hB.alloc _, fun e => by have := (k4 _ e).2; omega, fun e => by have := (k5 _ e).2; omega, k45⟩, hfr4.alloc _, fun q hq => ?_⟩
         simp only [rTB, List.mem_cons, List.mem_append, Option.mem_toList] at hq
         rcases hq with rfl | hq | hq
         · exact hfr4.size
         · exact (k4 q hq).1
         · exact (k5 q hq).1)
end
end Go.Proofs.Ytciacnnelpijeaa

/- The contracts of package intern over the plain model. -/
namespace Go.Proofs.Ytciacnnelpijeaa
open Go.RowKit

def TabM (w : World) (pt : Nat) (M : Md) (l : List Nat) : Prop :=
  ∃ T, TableAt w pt T l ∧ T.A = M.ar ∧ M.Ok ∧ ∀ id i, (id, i) ∈ M.L ↔ (T.used i ∧ T.ids i = id)

theorem TabM.ok {w : World} {pt : Nat} {M : Md} {l : List Nat} (h : TabM w pt M l) : M.Ok := by obtain ⟨_, _, _, h, _⟩ := h; exact h
theorem TabM.lt {w : World} {pt : Nat} {M : Md} {l : List Nat} (h : TabM w pt M l) : ∀ b ∈ l, b < w.heap.size := by obtain ⟨_, h, _⟩ := h; exact h.lt
theorem TabM.fr {w w' : World} {pt : Nat} {M : Md} {l S : List Nat} (h : TabM w pt M l) (hf : Fr S w w') (hd : ∀ b ∈ l, b ∉ S) : TabM w' pt M l := by
  obtain ⟨T, h, r⟩ := h; exact ⟨T, h.fr hf hd, r⟩
theorem TabM.below {w w' : World} {pt : Nat} {M : Md} {l : List Nat} (h : TabM w pt M l) (hf : Below w.heap.size w w') : TabM w' pt M l :=
  h.fr (Fr.of_below hf) (by simp)
theorem TabM.eqv {w w' : World} {pt : Nat} {M : Md} {l : List Nat} (h : TabM w pt M l) (he : Eqv w' w) : TabM w' pt M l :=
  h.fr (he.fr (Fr.refl [] w)) (by simp)

/-- What a call that may change one object leaves: its new blocks are old ones of its own, or new. -/
def Next (l l' : List Nat) (w w' : World) : Prop := Fr l w w' ∧ ∀ b ∈ l', b ∈ l ∨ w.heap.size ≤ b

theorem Next.refl (l : List Nat) (w : World) : Next l l w w := ⟨Fr.refl _ _, fun _ h => .inl h⟩
theorem Next.trans {l l' l'' : List Nat} {w w' w'' : World} (h : Next l l' w w') (k : Next l' l'' w' w'') : Next l l'' w w'' :=
  ⟨h.1.trans k.1 h.2, fun b hb => (k.2 b hb).elim (h.2 b) (fun hb => .inr (Nat.le_trans h.1.size hb))⟩
theorem Next.of_below {l : List Nat} {w w' : World} (h : Below w.heap.size w w') : Next l l w w' := ⟨(Fr.of_below h).mono (by simp), fun _ h => .inl h⟩

theorem tab_new (slots : Nat) (w : World) (h : slots ≤ 65536) :
    Calls Try.prog 14 #[.int .i64 slots] w fun e w' => ∃ pt, e = .returned (.tuple #[ptr pt, .int .i64 0]) ∧ ∃ l, TabM w' pt (Md.new slots) l ∧ Next [] l w w' := by
  refine (table_new slots w h).mono ?_
  rintro e w' ⟨pt, rfl, l, hT, hF, hl⟩
  refine ⟨pt, rfl, l, ⟨_, hT, rfl, Md.ok_new h, fun id i => ?_⟩, hF, fun b hb => .inr (hl b hb)⟩
  simp only [Md.new, List.not_mem_nil, false_iff, not_and]
  intro hu; exact absurd hu.1 (Nat.not_lt_zero _)

theorem tab_put {w : World} {pt : Nat} {M : Md} {l : List Nat} (id : Nat) (hid : id < 18446744073709551616) (h : TabM w pt M l) :
    Calls Try.prog 16 #[ptr pt, .int .u64 id] w fun e w' => e = .returned (.tuple #[.int .i64 (M.put id).idx, .bool (M.put id).added, .int .i64 (M.put id).err]) ∧
      ∃ l', TabM w' pt (M.put id).M l' ∧ Next l l' w w' := by
  have h0 := h
  obtain ⟨T, hT, hA, hok, hiff⟩ := h
  cases hf : M.find id with
  | some i =>
    have hm := (hiff id i).1 (Md.find_mem hf)
    have e : M.put id = ⟨i, false, 0, M⟩ := by simp only [Md.put, hf]
    rw [e]
    refine (table_put_there hid hT hm.1 hm.2).mono ?_
    rintro e w' ⟨rfl, hB⟩
    exact ⟨rfl, l, h0.below hB, Next.of_below hB⟩
  | none =>
    have hno : ∀ i, T.used i → T.ids i ≠ id := fun i hu e => Md.find_none.1 hf i ((hiff id i).2 ⟨hu, e⟩)
    cases hn : M.next with
    | none =>
      have e : M.put id = ⟨0, false, 4, M⟩ := by simp only [Md.put, hf, hn]
      rw [e]
      refine (table_put_full hid hT hno (by rw [hA, Md.ar_next]; exact hn)).mono ?_
      rintro e w' ⟨rfl, hB⟩
      exact ⟨rfl, l, h0.below hB, Next.of_below hB⟩
    | some i =>
      have e : M.put id = ⟨i, true, 0, M.add id i⟩ := by simp only [Md.put, hf, hn]
      rw [e]
      have hn' : T.A.next = some i := by rw [hA, Md.ar_next]; exact hn
      refine (table_put_new hid hT hno hn').mono ?_
      rintro e w' ⟨rfl, l', hT', hF, hs⟩
      refine ⟨rfl, l', ⟨T.put id i, hT', ?_, Md.ok_add hok hid hf hn, fun id' j => ?_⟩, hF, hs⟩
      · rw [Md.ar_add hn, ← hA]; rfl
      · have hu := isUsed_alloc (by rw [hA]; exact hok.ar) hn'
        simp only [Md.add, List.mem_append, List.mem_singleton, Prod.mk.injEq, hiff]
        have hu2 : (T.put id i).used j ↔ (T.used j ∨ j = i) := hu.2 j
        rw [hu2]
        simp only [Tb.put]
        constructor
        · rintro (⟨h1, h2⟩ | ⟨rfl, rfl⟩)
          · have : j ≠ i := fun e => hu.1 (e ▸ h1)
            rw [updN_other this]; exact ⟨.inl h1, h2⟩
          · rw [updN_same]; exact ⟨.inr rfl, rfl⟩
        · rintro ⟨h1, h2⟩
          by_cases e : j = i
          · rw [e, updN_same] at h2; exact .inr ⟨h2.symm, e⟩
          · rw [updN_other e] at h2; exact .inl ⟨h1.resolve_right e, h2⟩

theorem tab_del {w : World} {pt : Nat} {M : Md} {l : List Nat} (id : Nat) (hid : id < 18446744073709551616) (h : TabM w pt M l) :
    Calls Try.prog 15 #[ptr pt, .int .u64 id] w fun e w' => e = .returned (.int .i64 (M.del id).err) ∧ TabM w' pt (M.del id).M l ∧ Next l l w w' := by
  have h0 := h
  obtain ⟨T, hT, hA, hok, hiff⟩ := h
  cases hf : M.find id with
  | none =>
    have hno : ∀ i, T.used i → T.ids i ≠ id := fun i hu e => Md.find_none.1 hf i ((hiff id i).2 ⟨hu, e⟩)
    have e : M.del id = ⟨5, M⟩ := by simp only [Md.del, hf]
    rw [e]
    refine (table_del_none hid hT hno).mono ?_
    rintro e w' ⟨rfl, hB⟩
    exact ⟨rfl, h0.below hB, Next.of_below hB⟩
  | some i =>
    have hm := (hiff id i).1 (Md.find_mem hf)
    have e : M.del id = ⟨0, M.rem id i⟩ := by simp only [Md.del, hf]
    rw [e]
    refine (table_del hid hT hm.1 hm.2).mono ?_
    rintro e w' ⟨rfl, hT', hF⟩
    refine ⟨rfl, ⟨T.del i, hT', ?_, Md.ok_rem hok (Md.find_mem hf), fun id' j => ?_⟩, hF, fun _ h => .inl h⟩
    · rw [Md.ar_rem, ← hA]; rfl
    · have hu2 : (T.del i).used j ↔ (T.used j ∧ j ≠ i) := isUsed_put hm.1 j
      simp only [Md.rem, List.mem_filter, bne_iff_ne, hiff]
      rw [hu2]
      simp only [Tb.del]
      constructor
      · rintro ⟨⟨h1, h2⟩, h3⟩
        have e : j ≠ i := by rintro rfl; exact h3 (h2.symm.trans hm.2)
        rw [updN_other e]; exact ⟨⟨h1, e⟩, h2⟩
      · rintro ⟨⟨h1, h3⟩, h2⟩
        rw [updN_other h3] at h2
        refine ⟨⟨h1, h2⟩, fun e => ?_⟩
        have a1 := (hiff id j).2 ⟨h1, h2.trans e⟩
        have a2 := Md.mem_find hok.ids a1
        rw [hf] at a2
        exact h3 (by simpa using a2.symm)

theorem tab_get {w : World} {pt : Nat} {M : Md} {l : List Nat} (id : Nat) (hid : id < 18446744073709551616) (h : TabM w pt M l) :
    Calls Try.prog 22 #[ptr pt, .int .u64 id] w fun e w' => e = .returned (.tuple #[.int .i64 ((M.find id).getD 0), .bool (M.find id).isSome]) ∧ TabM w' pt M l ∧ Below w.heap.size w w' := by
  have h0 := h
  obtain ⟨T, hT, hA, hok, hiff⟩ := h
  cases hf : M.find id with
  | none =>
    have hno : ∀ i, T.used i → T.ids i ≠ id := fun i hu e => Md.find_none.1 hf i ((hiff id i).2 ⟨hu, e⟩)
    refine (table_get_no hid hT hno).mono ?_
    rintro e w' ⟨rfl, hB⟩
    exact ⟨rfl, h0.below hB, hB⟩
  | some i =>
    have hm := (hiff id i).1 (Md.find_mem hf)
    refine (table_get_yes hid hT hm.1 hm.2).mono ?_
    rintro e w' ⟨rfl, hB⟩
    exact ⟨rfl, h0.below hB, hB⟩

def Md.at (M : Md) (i : Int) : Option Nat := if 0 ≤ i then M.idOf i.toNat else none

theorem tab_id {w : World} {pt : Nat} {M : Md} {l : List Nat} (i : Int) (h : TabM w pt M l) :
    Calls Try.prog 19 #[ptr pt, .int .i64 i] w fun e w' => e = .returned (.tuple #[.int .u64 ((M.at i).getD 0), .bool (M.at i).isSome]) ∧ w = w' := by
  obtain ⟨T, hT, hA, hok, hiff⟩ := h
  unfold Md.at
  by_cases hi : 0 ≤ i
  · obtain ⟨k, rfl⟩ := Int.eq_ofNat_of_zero_le hi
    rw [if_pos hi]
    cases hf : M.idOf (k : Int).toNat with
    | some id =>
      have hm := (hiff id k).1 (by simpa using Md.idOf_mem hf)
      refine (table_id_yes hT hm.1).mono ?_
      rintro e w' ⟨rfl, rfl⟩
      rw [hm.2]; exact ⟨rfl, rfl⟩
    | none =>
      refine (table_id_no hT ?_).mono ?_
      · rintro ⟨_, hu⟩
        simp only [Int.toNat_natCast] at hu hf
        exact Md.idOf_none.1 hf _ ((hiff _ k).2 ⟨hu, rfl⟩)
      · rintro e w' ⟨rfl, rfl⟩; exact ⟨rfl, rfl⟩
  · rw [if_neg hi]
    refine (table_id_no hT (fun h => hi h.1)).mono ?_
    rintro e w' ⟨rfl, rfl⟩; exact ⟨rfl, rfl⟩

theorem tab_len {w : World} {pt : Nat} {M : Md} {l : List Nat} (h : TabM w pt M l) :
    Calls Try.prog 17 #[ptr pt] w fun e w' => e = .returned (.int .i64 M.L.length) ∧ w = w' := by
  obtain ⟨T, hT, hA, hok, hiff⟩ := h
  refine (table_len hT).mono ?_
  rintro e w' ⟨rfl, rfl⟩
  refine ⟨ret_int ?_, rfl⟩
  have := hok.cnt
  rw [hA]; simp only [Md.ar, Ar.used]; omega

end Go.Proofs.Ytciacnnelpijeaa

/- The example of the chapter, which every statement about layer 3 runs at its end. -/
namespace Go.Proofs.Ytciacnnelpijeaa
open Go.RowKit
set_option maxRecDepth 10000
set_option maxHeartbeats 400000

theorem tab_put_eq {w : World} {pt : Nat} {M M' : Md} {l : List Nat} {id i e : Nat} {a : Bool} (hid : id < 18446744073709551616) (h : TabM w pt M l) (hp : M.put id = ⟨i, a, e, M'⟩) :
    Calls Try.prog 16 #[ptr pt, .int .u64 id] w fun r w' => r = .returned (.tuple #[.int .i64 i, .bool a, .int .i64 e]) ∧ ∃ l', TabM w' pt M' l' ∧ Next l l' w w' := by
  have := tab_put id hid h
  rw [hp] at this
  exact this
theorem tab_del_eq {w : World} {pt : Nat} {M M' : Md} {l : List Nat} {id e : Nat} (hid : id < 18446744073709551616) (h : TabM w pt M l) (hp : M.del id = ⟨e, M'⟩) :
    Calls Try.prog 15 #[ptr pt, .int .u64 id] w fun r w' => r = .returned (.int .i64 e) ∧ TabM w' pt M' l ∧ Next l l w w' := by
  have := tab_del id hid h
  rw [hp] at this
  exact this

theorem works_w (w : World) : Calls Try.prog 13 #[] w fun e w' => e = .returned (.bool true) ∧ Below w.heap.size w w' := by
  go_enter Try.func13, Try.ntmps13
  go_wp2_with fail
  refine (tab_new 3 w (by decide)).mono ?_
  rintro e w1 ⟨pt, rfl, l1, h1, n1⟩
  go_wp2_with fail
  refine (tab_put_eq (id := 70) (i := 0) (e := 0) (a := true) (M' := ⟨3, [(70, 0)], [], 1⟩) (by decide) h1 rfl).mono ?_
  rintro e w2 ⟨rfl, l2, h2, n2⟩
  go_wp2_with fail
  refine (tab_put_eq (id := 80) (i := 1) (e := 0) (a := true) (M' := ⟨3, [(70, 0), (80, 1)], [], 2⟩) (by decide) h2 rfl).mono ?_
  rintro e w3 ⟨rfl, l3, h3, n3⟩
  go_wp2_with fail
  refine (tab_put_eq (id := 70) (i := 0) (e := 0) (a := false) (M' := ⟨3, [(70, 0), (80, 1)], [], 2⟩) (by decide) h3 rfl).mono ?_
  rintro e w4 ⟨rfl, l4, h4, n4⟩
  go_wp2_with fail
  refine (tab_del_eq (id := 70) (e := 0) (M' := ⟨3, [(80, 1)], [0], 2⟩) (by decide) h4 rfl).mono ?_
  rintro e w5 ⟨rfl, h5, n5⟩
  go_wp2_with fail
  refine (tab_put_eq (id := 90) (i := 0) (e := 0) (a := true) (M' := ⟨3, [(80, 1), (90, 0)], [], 2⟩) (by decide) h5 rfl).mono ?_
  rintro e w6 ⟨rfl, l6, h6, n6⟩
  go_wp2_with (go_at_call 17; refine (tab_len h6).mono ?_; rintro e w' ⟨rfl, rfl⟩)
  go_ret
  exact ⟨rfl, ((((((n1.trans n2).trans n3).trans n4).trans n5).trans n6).1).below (by simp)⟩

end Go.Proofs.Ytciacnnelpijeaa

/- InternNil: the walk. -/
namespace Go.Proofs.Ytciacnnelpijeaa
open Go.RowKit
set_option maxRecDepth 10000
set_option maxHeartbeats 400000

theorem bad_list (v : Value) (w : World) (h : BadTable w v) :
    Calls Try.prog 25 #[v] w fun e w' => e = .returned (.slice none 0 0) ∧ w = w' := by
  go_enter Try.func25, Try.ntmps25
  go_wp2_with (go_at_call 32; refine (table_invalid v _ h).mono ?_; rintro e w' ⟨rfl, rfl⟩)
  go_ret
  exact ⟨rfl, rfl⟩
theorem bad_copy (v : Value) (w : World) (h : BadTable w v) :
    Calls Try.prog 26 #[v] w fun e w' => e = .returned (.pointer none) ∧ w = w' := by
  go_enter Try.func26, Try.ntmps26
  go_wp2_with (go_at_call 32; refine (table_invalid v _ h).mono ?_; rintro e w' ⟨rfl, rfl⟩)
  go_ret
  exact ⟨rfl, rfl⟩

theorem walk_internNil (w : World) (a0 : Int) (_w0 : (Lit.int .u64 a0).wf = true) (a1 : Int) (_w1 : (Lit.int .i64 a1).wf = true) :
    Calls Try.prog 12 #[.int .u64 a0, .int .i64 a1] w fun e w' => e = .returned (.bool true) ∧ Below w.heap.size w w' := by
  clear _w0 _w1
  go_enter Try.func12, Try.ntmps12
  go_wp2
  have e1 := Blk.new w [.pointer none, .pointer none, .slice none 0 0, .slice none 0 0] 63
  have e2 := Blk.new (w.alloc (.cells #[.pointer none, .pointer none, .slice none 0 0, .slice none 0 0] 63)) [.pointer none, ptr w.heap.size] 25
  simp only [World.size_alloc] at e2
  have e1' := e1.alloc (.cells #[.pointer none, ptr w.heap.size] 25)
  have hB : Below w.heap.size w ((w.alloc (.cells #[.pointer none, .pointer none, .slice none 0 0, .slice none 0 0] 63)).alloc (.cells #[.pointer none, ptr w.heap.size] 25)) := ((Below.refl _ w).alloc (Nat.le_refl _) _).alloc (by simp) _
  generalize hW : ((w.alloc (.cells #[.pointer none, .pointer none, .slice none 0 0, .slice none 0 0] 63)).alloc (.cells #[.pointer none, ptr w.heap.size] 25)) = W at *
  clear hW e1
  have c0 := e2.cell 0
  have c1 := e2.cell 1
  have cz := e1'.cell 0
  simp only [List.getElem?_cons_zero, List.getElem?_cons_succ] at c0 c1 cz
  go_loop [8] (fun x => ∃ k : Nat, k ≤ 2 ∧ x = .int .i64 k) (fun x => 2 - (intOf x).toNat)
  case atStart => exact ⟨0, by omega, rfl⟩
  case round =>
    obtain ⟨k, hk, rfl⟩ := hrel
    by_cases hlt : k < 2
    · obtain ⟨v, hv, hbt⟩ : ∃ v, W.cell? ⟨w.heap.size + 1, k, none⟩ = some v ∧ BadTable W v := by
        rcases (show k = 0 ∨ k = 1 by omega) with rfl | rfl
        · exact ⟨_, c0, .inl rfl⟩
        · exact ⟨_, c1, .inr ⟨_, rfl, cz⟩⟩
      have hp : ∃ q, v = .pointer q := by
        rcases hbt with h | ⟨pt, h, _⟩
        · exact ⟨_, h⟩
        · exact ⟨_, h⟩
      obtain ⟨q, rfl⟩ := hp
      clear c0 c1 cz e1' e2
      go_wp2_with (first | (go_at_call 16; refine (bad_put _ _ _ hbt).mono ?_; rintro e w' ⟨rfl, rfl⟩) | (go_at_call 22; refine (bad_get _ _ _ hbt).mono ?_; rintro e w' ⟨rfl, rfl⟩) | (go_at_call 19; refine (bad_id _ _ _ hbt).mono ?_; rintro e w' ⟨rfl, rfl⟩) | (go_at_call 15; refine (bad_del _ _ _ hbt).mono ?_; rintro e w' ⟨rfl, rfl⟩) | (go_at_call 17; refine (bad_len _ _ hbt).mono ?_; rintro e w' ⟨rfl, rfl⟩) | (go_at_call 25; refine (bad_list _ _ hbt).mono ?_; rintro e w' ⟨rfl, rfl⟩) | (go_at_call 26; refine (bad_copy _ _ hbt).mono ?_; rintro e w' ⟨rfl, rfl⟩))
      go_round
      case rel => exact ⟨k + 1, by omega, by go_num⟩
      case measure => simp [intOf]; omega
    · go_wp2_with (go_at_call 13; refine (works_w _).mono ?_; rintro e w3 ⟨rfl, hB3⟩)
      go_ret
      exact ⟨rfl, hB.trans (hB3.mono hB.size)⟩

end Go.Proofs.Ytciacnnelpijeaa

namespace Go.Proofs.Ytciacnnelpijeaa
open Go.RowKit
set_option maxRecDepth 10000
set_option maxHeartbeats 800000

theorem tab_perm {M : Md} {T : Tb} (_hA : T.A = M.ar) (hok : M.Ok) (hiff : ∀ id i, (id, i) ∈ M.L ↔ (T.used i ∧ T.ids i = id)) : (M.L.map (·.1)).Perm ((usedL T.A).map T.ids) := by
  have h1 : M.L.Perm ((usedL T.A).map fun i => (T.ids i, i)) := by
    rw [List.perm_ext_iff_of_nodup ((List.pairwise_map.1 hok.ids).imp (fun h e => h (congrArg Prod.fst e))) (List.pairwise_map.2 ((nodup_usedL T.A).imp (fun h e => h (congrArg Prod.snd e))))]
    rintro ⟨id, i⟩
    rw [hiff, List.mem_map]
    constructor
    · rintro ⟨hu, rfl⟩; exact ⟨i, mem_usedL.2 hu, rfl⟩
    · rintro ⟨k, hk, e⟩
      simp only [Prod.mk.injEq] at e
      obtain ⟨rfl, rfl⟩ := e
      exact ⟨mem_usedL.1 hk, rfl⟩
  have := h1.map (·.1)
  rw [List.map_map] at this
  exact this
theorem tab_list {w : World} {pt : Nat} {M : Md} {l : List Nat} (h : TabM w pt M l) :
    Calls Try.prog 25 #[ptr pt] w fun e w' => ∃ v, e = .returned v ∧ w'.ownsRow 0 23 1 v M.L.length (encId (sortN (M.L.map (·.1)))) ∧ (∀ q, v.ownBlock = some q → w.heap.size ≤ q) ∧ Fr [] w w' := by
  obtain ⟨T, hT, hA, hok, hiff⟩ := h
  have hp := tab_perm hA hok hiff
  have hl : (usedL T.A).length = M.L.length := by simpa using hp.length_eq.symm
  refine (table_list hT).mono ?_
  rintro e w' ⟨v, rfl, h1, h2, h3⟩
  rw [hl, ← sortN_eq hp] at h1
  exact ⟨v, rfl, h1, h2, h3⟩
theorem tab_copy {w : World} {pt : Nat} {M : Md} {l : List Nat} (h : TabM w pt M l) :
    Calls Try.prog 26 #[ptr pt] w fun e w' => ∃ pt', e = .returned (ptr pt') ∧ ∃ l', TabM w' pt' M l' ∧ Fr [] w w' ∧ ∀ b ∈ l', w.heap.size ≤ b := by
  obtain ⟨T, hT, r⟩ := h
  refine (table_copy hT).mono ?_
  rintro e w' ⟨pt', rfl, l', h1, h2, h3⟩
  exact ⟨pt', rfl, l', ⟨T, h1, r⟩, h2, h3⟩
theorem Md.Ok.len {M : Md} (h : M.Ok) : M.L.length ≤ 65536 := by
  have h1 := h.cnt
  have h2 := h.ar.hb
  have h3 := h.ar.hs
  simp only [Md.ar] at h2 h3
  omega

theorem sameU_w {w : World} {v u : Value} {p q : List Nat} (hv : w.ownsRow 0 23 1 v p.length (encId p)) (hu : w.ownsRow 0 23 1 u q.length (encId q)) (hp : p.length ≤ 65536) :
    Calls Try.prog 27 #[v, u] w fun e w' => e = .returned (.bool (decide (p = q))) ∧ ∃ k, w' = w.drewN k := by
  obtain ⟨a1, c1, rfl⟩ := ownsRow_slice hv
  obtain ⟨a2, c2, rfl⟩ := ownsRow_slice hu
  have HV := Lib.hid hv; clear hv
  have HU := Lib.hid hu; clear hu
  by_cases hl : p.length = q.length
  · have hb : ((p.length : Int) != (q.length : Int)) = false := by simp; omega
    go_enter Try.func27, Try.ntmps27
    go_wp2
    go_loopw [5] (fun x wr => ∃ i : Nat, i ≤ p.length ∧ x = .int .i64 i ∧ (∃ k, wr = w.drewN k) ∧ Hid (p.take i = q.take i)) (fun x _ => p.length - (intOf x).toNat)
    case atStart => exact ⟨0, Nat.zero_le _, rfl, ⟨0, rfl⟩, Lib.hid (by simp)⟩
    case round =>
      obtain ⟨i, hi, rfl, ⟨k, rfl⟩, HT⟩ := hrel
      by_cases hlt : i < p.length
      · obtain ⟨b1, c1', e1, _, _, r1, _⟩ := ownsRow_at HV.out hlt
        obtain ⟨b2, c2', e2, _, _, r2, _⟩ := ownsRow_at HU.out (show i < q.length by omega)
        simp only [Value.slice.injEq, true_and] at e1 e2
        obtain ⟨rfl, rfl⟩ := e1
        obtain ⟨rfl, rfl⟩ := e2
        have hi1 : (i : Int) < p.length := by omega
        have hi2 : (i : Int) < q.length := by omega
        have hi0 : (0 : Int) ≤ i := by omega
        have hgp : p[i]? = some (p[i]'hlt) := List.getElem?_eq_getElem hlt
        have hgq : q[i]? = some (q[i]'(by omega)) := List.getElem?_eq_getElem (by omega)
        simp only [encId, List.getElem?_map, hgp, hgq, Option.map_some] at r1 r2
        have Hg := Lib.hid (And.intro hgp hgq); clear hgp hgq
        generalize p[i]'hlt = x at *
        generalize q[i]'(by omega) = y at *
        by_cases hxy : x = y
        · have hne : ((x : Int) != (y : Int)) = false := by simp; omega
          have Hxy := Lib.hid hxy; clear hxy
          go_wp2
          go_quiet (fail)
          go_wp2
          go_roundw
          case rel =>
            refine ⟨i + 1, by omega, by go_num, ⟨k + nq, by simp⟩, Lib.hid ?_⟩
            rw [List.take_add_one, List.take_add_one, HT.out, Hg.out.1, Hg.out.2, Hxy.out]
          case measure => simp [intOf]; omega
        · have hne : ((x : Int) != (y : Int)) = true := by simp; omega
          have Hxy := Lib.hid hxy; clear hxy
          go_wp2
          go_quiet (fail)
          go_wp2
          go_ret
          refine ⟨?_, k + nq, by simp⟩
          have : decide (p = q) = false := decide_eq_false (fun e => by
            have h1 := Hg.out.1; have h2 := Hg.out.2
            rw [e, h2] at h1
            exact Hxy.out (Option.some.inj h1).symm)
          rw [this]; rfl
      · obtain rfl : i = p.length := by omega
        go_wp2
        go_ret
        refine ⟨?_, _, rfl⟩
        have : decide (p = q) = true := decide_eq_true (by
          have := HT.out
          rw [List.take_of_length_le (Nat.le_refl _), List.take_of_length_le (by omega)] at this
          exact this)
        rw [this]; rfl
  · have hb : ((p.length : Int) != (q.length : Int)) = true := by simp; omega
    have Hl := Lib.hid hl; clear hl
    go_enter Try.func27, Try.ntmps27
    go_wp2
    go_ret
    refine ⟨?_, 0, rfl⟩
    rw [decide_eq_false (fun e => Hl.out (by rw [e]))]; rfl

/-- A table and the document's in the same state. -/
structure BothI (W wr : World) (pt : Nat) (l : List Nat) (pr : Nat) (vL vF : Value) (M : Md) : Prop where
  tab : TabM wr pt M l
  ref : RTab wr pr vL vF M
  fr : Fr [] W wr
  newT : ∀ b ∈ l, W.heap.size ≤ b
  newR : ∀ q ∈ rTB pr vL vF, W.heap.size ≤ q ∧ q ∉ l

section
variable {W wr w' : World} {pt : Nat} {l : List Nat} {pr : Nat} {vL vF : Value} {M : Md} (h : BothI W wr pt l pr vL vF M)
include h
theorem BothI.keep (hf : Fr [] wr w') : BothI W w' pt l pr vL vF M :=
  ⟨h.tab.fr hf (by simp), h.ref.fr0 hf, h.fr.trans' hf, h.newT, h.newR⟩

theorem agree_w (id : Nat) (hid : id < 18446744073709551616) (i : Int) :
    Calls Try.prog 24 #[ptr pt, ptr pr, .int .u64 id, .int .i64 i] wr fun e w' => e = .returned (.bool true) ∧ Fr [] wr w' := by
  have hok := h.tab.ok
  have hlen := hok.len
  have H1 := Lib.hid (tab_get id hid h.tab)
  have H2 := Lib.hid (fun (w1 : World) (hf : Fr [] wr w1) => rget_w (h.ref.fr0 hf) hok id)
  have H3 := Lib.hid (fun (w1 : World) (hf : Fr [] wr w1) => tab_id i (h.tab.fr hf (by simp)))
  have H4 := Lib.hid (fun (w1 : World) (hf : Fr [] wr w1) => rid_w (h.ref.fr0 hf) hok i)
  have H5 := Lib.hid (fun (w1 : World) (hf : Fr [] wr w1) => tab_len (h.tab.fr hf (by simp)))
  have H6 := Lib.hid (fun (w1 : World) (hf : Fr [] wr w1) => rlen_w (h.ref.fr0 hf))
  have H7 := Lib.hid (fun (w1 : World) (hf : Fr [] wr w1) => tab_list (h.tab.fr hf (by simp)))
  have H8 := Lib.hid (fun (w1 : World) (hf : Fr [] wr w1) => rlist_w (h.ref.fr0 hf) hok)
  clear hok h
  unfold Md.at at H3
  have hls : (sortN (M.L.map (·.1))).length = M.L.length := by rw [sortN_len]; simp
  generalize sortN (M.L.map (·.1)) = s at *
  have Hls := Lib.hid hls; clear hls
  generalize (M.find id).getD 0 = g1 at *
  generalize (M.find id).isSome = b1 at *
  generalize (if 0 ≤ i then M.idOf i.toNat else none).getD 0 = g2 at *
  generalize (if 0 ≤ i then M.idOf i.toNat else none).isSome = b2 at *
  generalize M.L.length = n at *
  have t1 : ((g1 : Int) == (g1 : Int)) = true := by simp
  have t2 : (b1 == b1) = true := by simp
  have t3 : ((g2 : Int) == (g2 : Int)) = true := by simp
  have t4 : (b2 == b2) = true := by simp
  have t5 : ((n : Int) == (n : Int)) = true := by simp
  go_enter Try.func24, Try.ntmps24
  go_wp2_with fail
  refine H1.out.mono ?_
  rintro _ w1 ⟨rfl, _, hB1⟩
  have HF1 := Lib.hid (Fr.of_below hB1); clear hB1
  go_wp2_with fail
  refine (H2.out w1 HF1.out).mono ?_
  rintro _ w1 ⟨rfl, rfl⟩
  go_wp2_with fail
  refine (H3.out w1 HF1.out).mono ?_
  rintro _ w2 ⟨rfl, e2⟩
  subst e2
  go_wp2_with fail
  refine (H4.out w1 HF1.out).mono ?_
  rintro _ w1 ⟨rfl, rfl⟩
  go_wp2_with fail
  refine (H5.out w1 HF1.out).mono ?_
  rintro _ w2 ⟨rfl, e2⟩
  subst e2
  go_wp2_with fail
  refine (H6.out w1 HF1.out).mono ?_
  rintro _ w1 ⟨rfl, rfl⟩
  go_wp2_with fail
  refine (H7.out w1 HF1.out).mono ?_
  rintro _ w3 ⟨v3, rfl, ho3, hq3, hf3⟩
  have HF3 := Lib.hid (HF1.out.trans' hf3)
  obtain ⟨a3, c3, rfl⟩ := ownsRow_slice ho3
  have HO3 := Lib.hid ho3; clear ho3 hf3 hq3
  go_wp2_with fail
  refine (H8.out w3 HF3.out).mono ?_
  rintro _ w4 ⟨v4, rfl, ho4, hq4, hf4⟩
  have HF4 := Lib.hid (HF3.out.trans' hf4)
  obtain ⟨a4, c4, rfl⟩ := ownsRow_slice ho4
  have ho3' := ownsRow_same HO3.out (fun q hq => hf4.keep q (HO3.out.lt q hq).2 (by simp))
  rw [← Hls.out] at ho3' ho4
  have hsm := sameU_w ho3' ho4 (by rw [Hls.out]; exact hlen)
  rw [decide_eq_true rfl, Hls.out] at hsm
  have HSm := Lib.hid hsm; clear hsm ho3' ho4 hq4 hf4
  go_wp2_with fail
  refine HSm.out.mono ?_
  rintro _ _ ⟨rfl, k, rfl⟩
  go_wp2
  go_ret
  exact ⟨rfl, HF4.out.drewN k⟩
end

section
variable {w : World}
theorem rnil_get (id : Nat) : Calls Try.prog 39 #[.pointer none, .int .u64 id] w fun e w' => e = .returned (.tuple #[.int .i64 0, .bool false]) ∧ w' = w := by
  go_enter Try.func39, Try.ntmps39
  go_wp2_with (go_at_call 48; refine (rvalid_nil _).mono ?_; rintro e w' ⟨rfl, rfl⟩)
  go_ret2
  exact ⟨rfl, rfl⟩
theorem rnil_id (i : Int) : Calls Try.prog 40 #[.pointer none, .int .i64 i] w fun e w' => e = .returned (.tuple #[.int .u64 0, .bool false]) ∧ w' = w := by
  go_enter Try.func40, Try.ntmps40
  go_wp2_with (go_at_call 48; refine (rvalid_nil _).mono ?_; rintro e w' ⟨rfl, rfl⟩)
  go_ret2
  exact ⟨rfl, rfl⟩
theorem rnil_put (id : Nat) : Calls Try.prog 28 #[.pointer none, .int .u64 id] w fun e w' => e = .returned (.tuple #[.int .i64 0, .bool false, .int .i64 1]) ∧ w' = w := by
  go_enter Try.func28, Try.ntmps28
  go_wp2_with (go_at_call 48; refine (rvalid_nil _).mono ?_; rintro e w' ⟨rfl, rfl⟩)
  go_ret3
  exact ⟨rfl, rfl⟩
theorem rnil_del (id : Nat) : Calls Try.prog 29 #[.pointer none, .int .u64 id] w fun e w' => e = .returned (.int .i64 1) ∧ w' = w := by
  go_enter Try.func29, Try.ntmps29
  go_wp2_with (go_at_call 48; refine (rvalid_nil _).mono ?_; rintro e w' ⟨rfl, rfl⟩)
  go_ret
  exact ⟨rfl, rfl⟩
theorem rnil_len : Calls Try.prog 41 #[.pointer none] w fun e w' => e = .returned (.int .i64 0) ∧ w' = w := by
  go_enter Try.func41, Try.ntmps41
  go_wp2_with (go_at_call 48; refine (rvalid_nil _).mono ?_; rintro e w' ⟨rfl, rfl⟩)
  go_ret
  exact ⟨rfl, rfl⟩
theorem rnil_list : Calls Try.prog 42 #[.pointer none] w fun e w' => e = .returned (.slice none 0 0) ∧ w' = w := by
  go_enter Try.func42, Try.ntmps42
  go_wp2_with (go_at_call 48; refine (rvalid_nil _).mono ?_; rintro e w' ⟨rfl, rfl⟩)
  go_ret
  exact ⟨rfl, rfl⟩
theorem rnil_copy : Calls Try.prog 30 #[.pointer none] w fun e w' => e = .returned (.pointer none) ∧ w' = w := by
  go_enter Try.func30, Try.ntmps30
  go_wp2_with (go_at_call 48; refine (rvalid_nil _).mono ?_; rintro e w' ⟨rfl, rfl⟩)
  go_ret
  exact ⟨rfl, rfl⟩
theorem nil_agree (id : Nat) (i : Int) :
    Calls Try.prog 24 #[.pointer none, .pointer none, .int .u64 id, .int .i64 i] w fun e w' => e = .returned (.bool true) ∧ Fr [] w w' := by
  have hB : BadTable w (.pointer none) := .inl rfl
  have HS := Lib.hid (sameU_w (w := w) (v := .slice none 0 0) (u := .slice none 0 0) (p := []) (q := []) (World.ownsRow_nil _ _ _ _) (World.ownsRow_nil _ _ _ _) (by simp))
  go_enter Try.func24, Try.ntmps24
  go_wp2_with (first | (go_at_call 22; refine (bad_get _ _ _ hB).mono ?_; rintro e w' ⟨rfl, rfl⟩) | (go_at_call 39; refine (rnil_get _).mono ?_; rintro e w' ⟨rfl, rfl⟩) | (go_at_call 19; refine (bad_id _ _ _ hB).mono ?_; rintro e w' ⟨rfl, rfl⟩) | (go_at_call 40; refine (rnil_id _).mono ?_; rintro e w' ⟨rfl, rfl⟩) | (go_at_call 17; refine (bad_len _ _ hB).mono ?_; rintro e w' ⟨rfl, rfl⟩) | (go_at_call 41; refine rnil_len.mono ?_; rintro e w' ⟨rfl, rfl⟩) | (go_at_call 25; refine (bad_list _ _ hB).mono ?_; rintro e w' ⟨rfl, rfl⟩) | (go_at_call 42; refine rnil_list.mono ?_; rintro e w' ⟨rfl, rfl⟩) | (go_at_call 27; refine HS.out.mono ?_; rintro e w' ⟨rfl, k, rfl⟩))
  go_ret
  exact ⟨rfl, (Fr.refl _ _).drewN _⟩
end
end Go.Proofs.Ytciacnnelpijeaa
