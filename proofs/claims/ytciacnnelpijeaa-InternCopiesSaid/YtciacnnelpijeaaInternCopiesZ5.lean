/- slices.Sort at uint64: what the walks share; cmp.Less; insertionSortOrdered. -/
import Derived.Deep.WholeRow
import Derived.StillTailTactics
import Derived.Test.YtciacnnelpijeaaInternCopiesZ4
import Derived.Deep.RegionHeld3
import Derived.Shelf.SlGeneric
import Derived.Ground.SlgnProg
import Derived.Shelf.SlicesE.Clone
import Derived.Test.YtciacnnelpijeaaInternCopiesZ2
import Derived.Test.YtciacnnelpijeaaInternCopiesZ1
import Derived.Sort.WalkA
import Derived.Sort.Walk13a
import Derived.CellFam
import Derived.BigGuard
import Derived.BigCall
import Derived.Deep.Draws
/- arena: Copy. -/
namespace Go.Proofs.Ytciacnnelpijeaa
open Go.RowKit
set_option maxRecDepth 10000
set_option maxHeartbeats 1600000

theorem arena_copy {w : World} {pa : Nat} {A : Ar} {l : List Nat} (h : ArenaAt w pa A l) :
    Calls Try.prog 45 #[ptr pa] w fun e w' => ∃ pa', e = .returned (ptr pa') ∧ ∃ l', ArenaAt w' pa' A l' ∧ Fr [] w w' ∧ ∀ b ∈ l', w.heap.size ≤ b := by
  have hok := h.ok
  have hs := hok.hs
  have hb := hok.hb
  have HA := Lib.hid h
  obtain ⟨v0, bs, st, af, h1, h2, h3, rfl, hnd, hl, _, hst, hch⟩ := h
  have c0 := h1.cell 0
  have c1 := h1.cell 1
  have c2 := h1.cell 2
  have c3 := h1.cell 3
  have c4 := h1.cell 4
  have c5 := h1.cell 5
  simp only [List.getElem?_cons_zero, List.getElem?_cons_succ] at c0 c1 c2 c3 c4 c5
  obtain ⟨a2, cp2, rfl⟩ := ownsRow_slice h2
  have hpa := h1.lt
  have H1 := Lib.hid (And.intro h1 (And.intro h2 h3)); clear h1 h2 h3
  have hbl : bs.length ≤ 1024 := by omega
  go_enter Try.func45, Try.ntmps45
  go_wp2_with (go_at_call 51; refine (arena_valid pa _ c0).mono ?_; rintro e w' ⟨rfl, rfl⟩)
  go_still_tail 16, (by kernel_rfl)
  change wpList _ _ _ _ _ w.drew
  have hF0 : Fr [] w (w.alloc (.cells #[.pointer (some ⟨w.heap.size, 0, none⟩), .slice none 0 0, .int .i64 A.slots, .int .i64 A.begun, .int .i64 A.used, .int .i64 (lastOf A.free)] 86)).drew := ((Fr.refl [] w).alloc _).drew
  have hb0 := (Blk.new w [ptr w.heap.size, .slice none 0 0, .int .i64 A.slots, .int .i64 A.begun, .int .i64 A.used, .int .i64 (lastOf A.free)] 86).drew
  have d1 : (w.alloc (.cells #[.pointer (some ⟨w.heap.size, 0, none⟩), .slice none 0 0, .int .i64 A.slots, .int .i64 A.begun, .int .i64 A.used, .int .i64 (lastOf A.free)] 86)).cell? ⟨pa, 1, none⟩ = some (.slice a2 bs.length cp2) := ((Fr.refl [] w).alloc _).cell c1 (by simp)
  go_wp2
  have hsz1 : (w.alloc (.cells #[.pointer (some ⟨w.heap.size, 0, none⟩), .slice none 0 0, .int .i64 A.slots, .int .i64 A.begun, .int .i64 A.used, .int .i64 (lastOf A.free)] 86)).drew.heap.size = w.heap.size + 1 := by simp
  have HB0 : Hid (Blk (w.alloc (.cells #[.pointer (some ⟨w.heap.size, 0, none⟩), .slice none 0 0, .int .i64 A.slots, .int .i64 A.begun, .int .i64 A.used, .int .i64 (lastOf A.free)] 86)).drew w.heap.size 86 [ptr w.heap.size, .slice none 0 0, .int .i64 A.slots, .int .i64 A.begun, .int .i64 A.used, .int .i64 (lastOf A.free)]) := Lib.hid hb0
  have HF0 := Lib.hid hF0; clear hF0 hb0
  generalize (w.alloc (.cells #[.pointer (some ⟨w.heap.size, 0, none⟩), .slice none 0 0, .int .i64 A.slots, .int .i64 A.begun, .int .i64 A.used, .int .i64 (lastOf A.free)] 86)).drew = w1 at *
  clear c0 c1 c2 c3 c4 c5 d1
  go_loopw [37] (fun si wr => ∃ (i : Nat) (v : Value) (bs' : List Nat), i ≤ bs.length ∧ si = .int .i64 i ∧ bs'.length = i ∧ Hid (Fr [] w wr) ∧ Hid (Blk wr w.heap.size 86 [ptr w.heap.size, v, .int .i64 A.slots, .int .i64 A.begun, .int .i64 A.used, .int .i64 (lastOf A.free)]) ∧
    wr.ownsRow 0 96 1 v i (bs'.map ptr) ∧ Hid (∀ q, v.ownBlock = some q → w.heap.size < q ∧ q ∉ bs') ∧ Hid (bs'.Nodup ∧ ∀ b ∈ bs', w.heap.size < b) ∧
    Hid (∀ (j b b' : Nat), bs[j]? = some b → bs'[j]? = some b' → ∃ cs, Blk w b 98 cs ∧ Blk wr b' 98 cs)) (fun si _ => bs.length - (intOf si).toNat)
  case atStart => exact ⟨0, .slice none 0 0, [], Nat.zero_le _, rfl, rfl, HF0, HB0, World.ownsRow_nil _ _ _ _, Lib.hid (fun q e => by cases e), Lib.hid ⟨List.nodup_nil, by simp⟩, Lib.hid (fun j b b' _ h => by simp at h)⟩
  case round =>
    clear HB0 HF0 hsz1
    obtain ⟨i, v, bs', hi, rfl, hbl', HF, HB, hown, HQ, HN, HC⟩ := hrel
    obtain ⟨a8, c8, rfl⟩ := ownsRow_slice hown
    have c1 := HB.out.cell 1
    have z1 := HB.out.frozen 1
    simp only [List.getElem?_cons_zero, List.getElem?_cons_succ] at c1
    by_cases hlt : i < bs.length
    · have hil : (i : Int) < bs.length := by omega
      obtain ⟨g, cap, e, _, hg, hcg, _⟩ := ownsRow_at H1.out.2.1 hlt
      simp only [Value.slice.injEq, true_and] at e
      obtain ⟨rfl, rfl⟩ := e
      have hbi : bs[i]? = some bs[i] := List.getElem?_eq_getElem hlt
      obtain ⟨cs, hcs, hrs⟩ := H1.out.2.2 i bs[i] hbi
      generalize bs[i] = b at *
      have hcg' : wr.cell? ⟨g, i, none⟩ = some (ptr b) := HF.out.cell (by rw [hcg]; simp [hbi]) (by simp)
      have hcsr := HF.out.blk hcs (by simp)
      have hcl := (hrs 0 (by decide)).2.2.2
      have hone : ∀ u ∈ cs, u.oneCell' = true := by
        intro u hu
        obtain ⟨k, hk⟩ := List.mem_iff_getElem?.1 hu
        have hk2 : k < 192 := by rw [← hcl]; exact (List.getElem?_eq_some_iff.1 hk).1
        obtain ⟨r0, r1, ⟨t, r2⟩, _⟩ := hrs (k / 3) (by omega)
        rcases (show k = k / 3 * 3 ∨ k = k / 3 * 3 + 1 ∨ k = k / 3 * 3 + 2 by omega) with e | e | e
        · rw [← e, hk] at r0; cases r0; rfl
        · rw [← e, hk] at r1; cases r1; rfl
        · rw [← e, hk] at r2; cases r2; rfl
      have hinfo : (Try.prog.info? 98).map (·.size) = some cs.toArray.size := by
        have : (Try.prog.info? 98).map (·.size) = some 192 := by kernel_rfl
        rw [this]; simp [hcl]
      have hz : Try.zeroCells98.size = cs.toArray.size := by
        have := zero_block_len
        simp only [Array.length_toList] at this
        rw [this]; simp [hcl]
      have Hone := Lib.hid hone; clear hone
      have Hcs := Lib.hid hcs; clear hcs hrs
      go_wp2
      refine wp_load_row 98 _ rfl b rfl 98 cs.toArray (0, 0) _ hcsr Try.underlying98 rfl hinfo ?_
      have hst := run_storeCells_new (P := Try.prog) wr 98 Try.zeroCells98 cs.toArray hinfo hz (by simpa using Hone.out)
      simp only [List.toList_toArray] at hst
      have hFa : Fr [] wr (wr.alloc (.cells cs.toArray 98)) := (Fr.refl [] wr).alloc _
      have c1' := hFa.cell c1 (by simp)
      have hbn : Blk (wr.alloc (.cells cs.toArray 98)) wr.heap.size 98 cs := Blk.new wr cs 98
      have Hbn := Lib.hid hbn; clear hbn
      have HFa := Lib.hid hFa; clear hFa
      go_wp2_with (at_builtin; refine wpList_app1 rfl _ _ 84 rfl 96 (.pointer none) 8 Try.underlying84 Try.info96 rfl (.slice a8 i c8) i _ rfl ((hown.alloc _).alloc _) (wr.heap.size + 1) (ptr wr.heap.size) rfl (cell_new1 _ _ _ _ (by simp)) rfl (by omega) (by decide) ?_; intro g' cap' w4 hown4 hgrow4 hg4; have hF4 : Fr (Value.slice a8 i c8).ownBlock.toList (wr.alloc (.cells cs.toArray 98)) w4 := ((Fr.refl _ _).alloc _).grown hgrow4 (fun q e => .inl (by simp [e])); have hB4 : Blk w4 w.heap.size 86 [ptr w.heap.size, .slice a8 i c8, .int .i64 A.slots, .int .i64 A.begun, .int .i64 A.used, .int .i64 (lastOf A.free)] := hF4.blk (HFa.out.blk HB.out (by simp)) (fun hm => by have := (HQ.out w.heap.size (by simpa using hm)).1; omega); have c4 := hB4.cell 1; have z4 := hB4.frozen 1; simp only [List.getElem?_cons_zero, List.getElem?_cons_succ] at c4)
      have hlow : ∀ b' ∈ bs', b' < wr.heap.size := by
        intro b' hb'
        obtain ⟨j, hj, e⟩ := List.mem_iff_getElem.1 hb'
        obtain ⟨_, _, h2⟩ := HC.out j _ b' (List.getElem?_eq_getElem (show j < bs.length by omega)) (by rw [List.getElem?_eq_getElem hj, e])
        exact h2.lt
      have hhd := HB.out.lt
      have hol : ∀ q, (Value.slice a8 i c8).ownBlock = some q → q < wr.heap.size := fun q hq => (hown.lt q hq).2
      simp only [World.size_alloc] at hg4
      have hgn : g' ≠ w.heap.size := by
        rintro rfl
        rcases hg4 with e | e
        · have := (HQ.out _ e).1; omega
        · omega
      go_roundw
      case rel =>
        refine ⟨i + 1, .slice (some ⟨g', 0, none⟩) (i + 1) cap', bs' ++ [wr.heap.size], by omega, by go_num, by simp; omega, Lib.hid ?_, Lib.hid (hB4.set 1 _), ?_, Lib.hid (fun q e => ?_), Lib.hid ⟨?_, fun x hx => ?_⟩, Lib.hid (fun j x y hj hy => ?_)⟩
        · exact ((HF.out.trans' HFa.out).trans hF4 (fun q hq => .inr (Nat.le_of_lt (HQ.out q (by simpa using hq)).1))).setCell _ _ (.inr (Nat.le_refl _))
        · have e : (bs' ++ [wr.heap.size]).map ptr = bs'.map ptr ++ [ptr wr.heap.size] := by simp
          rw [e]
          exact ownsRow_other hown4 _ _ (by simpa [Value.ownBlock] using hgn)
        · simp only [Value.ownBlock, Option.some.injEq] at e
          subst e
          simp only [List.mem_append, List.mem_singleton, not_or]
          rcases hg4 with e | e
          · have h1 := hol _ e
            exact ⟨(HQ.out _ e).1, (HQ.out _ e).2, by omega⟩
          · refine ⟨by omega, fun hm => ?_, by omega⟩
            have := hlow _ hm
            omega
        · rw [List.nodup_append]
          refine ⟨HN.out.1, by simp, fun x hx y hy e => ?_⟩
          simp at hy
          have := hlow x hx
          omega
        · simp only [List.mem_append, List.mem_singleton] at hx
          rcases hx with hx | rfl
          · exact HN.out.2 x hx
          · omega
        · by_cases hji : j < i
          · rw [List.getElem?_append_left (by omega)] at hy
            obtain ⟨cs', k1, k2⟩ := HC.out j x y hj hy
            have hym := List.mem_of_getElem? hy
            refine ⟨cs', k1, (hF4.blk (HFa.out.blk k2 (by simp)) (fun hm => (HQ.out y (by simpa using hm)).2 hym)).other _ _ ?_⟩
            have := HN.out.2 y hym
            simp; omega
          · have hjl : j < (bs' ++ [wr.heap.size]).length := (List.getElem?_eq_some_iff.1 hy).1
            simp at hjl
            obtain rfl : j = i := by omega
            rw [List.getElem?_append_right (by omega)] at hy
            simp [hbl'] at hy
            subst hy
            have : x = b := by rw [hbi] at hj; simpa using hj.symm
            subst this
            refine ⟨cs, Hcs.out, (hF4.blk Hbn.out (fun hm => ?_)).other _ _ ?_⟩
            · have := hol wr.heap.size (by simpa using hm)
              omega
            · simp; omega
      case measure => simp [intOf]; omega
    · obtain rfl : i = bs.length := by omega
      have Hown := Lib.hid hown; clear hown
      go_wp2
      go_ret
      refine ⟨w.heap.size, rfl, w.heap.size :: ((Value.slice a8 bs.length c8).ownBlock.toList ++ bs'), ⟨.slice a8 bs.length c8, bs', st, af, HB.out, by rw [hbl']; exact Hown.out, ?_, rfl, ?_, by rw [hbl', hl], hok, hst, hch⟩, HF.out, ?_⟩
      · intro j b' hj
        have hjl : j < bs'.length := (List.getElem?_eq_some_iff.1 hj).1
        have hbj : bs[j]? = some bs[j] := List.getElem?_eq_getElem (by omega)
        obtain ⟨cs, k1, k2⟩ := HC.out j _ b' hbj hj
        obtain ⟨cs0, k3, k4⟩ := H1.out.2.2 j _ hbj
        obtain rfl := k1.eq k3
        exact ⟨cs, k2, k4⟩
      · rw [List.nodup_cons, List.nodup_append]
        refine ⟨?_, by cases (Value.slice a8 bs.length c8).ownBlock <;> simp, HN.out.1, ?_⟩
        · simp only [List.mem_append, Option.mem_toList, not_or]
          refine ⟨fun e => ?_, fun hm => ?_⟩
          · have := (HQ.out _ e).1; omega
          · have := HN.out.2 _ hm; omega
        · intro x hx y hy e
          subst e
          exact (HQ.out x (by simpa using hx)).2 hy
      · intro x hx
        simp only [List.mem_cons, List.mem_append, Option.mem_toList] at hx
        rcases hx with rfl | hx | hx
        · exact Nat.le_refl _
        · exact Nat.le_of_lt (HQ.out x hx).1
        · exact Nat.le_of_lt (HN.out.2 x hx)
end Go.Proofs.Ytciacnnelpijeaa

/- intern: Copy. -/
namespace Go.Proofs.Ytciacnnelpijeaa
open Go.RowKit
set_option maxRecDepth 10000
set_option maxHeartbeats 800000

def Try.laysCloneU_ren : Go.Shelf.Ren := ⟨fun | 41 => 46 | n => n, fun | 22 => 37 | 23 => 23 | 4 => 4 | n => n, fun | n => n⟩
theorem Try.laysCloneU : Go.Proofs.SlLaysE0.n41 Try.prog Try.laysCloneU_ren := {
  mixed := by kernel_rfl
  f41 := ⟨Try.f46.name, by decide, Try.func46.trans (congrArg some (by kernel_rfl))⟩
  t4 := Try.underlying4
  a4 := Try.isAgg4
  z4 := Try.sizeOf4
  v4 := Try.zeroValue4
  t22 := Try.underlying37
  a22 := Try.isAgg37
  z22 := Try.sizeOf37
  v22 := Try.zeroValue37 }
def Try.laysCloneI_ren : Go.Shelf.Ren := ⟨fun | 41 => 47 | n => n, fun | 22 => 38 | 23 => 3 | 4 => 4 | n => n, fun | n => n⟩
theorem Try.laysCloneI : Go.Proofs.SlLaysE0.n41 Try.prog Try.laysCloneI_ren := {
  mixed := by kernel_rfl
  f41 := ⟨Try.f47.name, by decide, Try.func47.trans (congrArg some (by kernel_rfl))⟩
  t4 := Try.underlying4
  a4 := Try.isAgg4
  z4 := Try.sizeOf4
  v4 := Try.zeroValue4
  t22 := Try.underlying38
  a22 := Try.isAgg38
  z22 := Try.sizeOf38
  v22 := Try.zeroValue38 }

theorem ownsRow_to0 {w : World} {base : Nat} {e : TypeId} {size : Nat} {v : Value} {n : Nat} {xs : List Value} (h : w.ownsRow base e size v n xs) : w.ownsRow 0 e size v n xs :=
  ⟨h.1, h.2.elim .inl (fun ⟨g, cap, cur, k1, _, k3⟩ => .inr ⟨g, cap, cur, k1, Nat.zero_le _, k3⟩)⟩
theorem ownsRow_new {w : World} {base : Nat} {e : TypeId} {size : Nat} {v : Value} {n : Nat} {xs : List Value} (h : w.ownsRow base e size v n xs) : ∀ q, v.ownBlock = some q → base ≤ q := by
  intro q hq
  rcases h.2 with ⟨rfl, _⟩ | ⟨g, cap, cur, rfl, hb, _⟩
  · cases hq
  · simp [Value.ownBlock] at hq; omega

theorem clone_ids {w : World} {v : Value} {n : Nat} {f : Nat → Nat} (h : w.ownsRow 0 23 1 v n (fnRow n (idF f))) (hn : n ≤ 65536) :
    Calls Try.prog 46 #[v] w fun e w' => ∃ v', e = .returned v' ∧ w'.ownsRow 0 23 1 v' n (fnRow n (idF f)) ∧ (∀ q, v'.ownBlock = some q → w.heap.size ≤ q) ∧ Fr [] w w' := by
  obtain ⟨i0, hi, hz0, hz1, hz2⟩ := info_parts Try.info23
  rcases h.2 with ⟨rfl, rfl⟩ | ⟨g, cap, cur, rfl, hg, hcur, hnc, hcm, hcs, htk⟩
  · refine (AnyE.slices_Clone_nil Try.laysCloneU 0 0 w).mono ?_
    rintro _ _ ⟨rfl, rfl⟩
    exact ⟨_, rfl, h, fun q e => (by cases e), Fr.refl _ _⟩
  · refine (AnyE.slices_Clone Try.laysCloneU i0 (.int .u64 0) 1 8 hi hz0 hz1 hz2 rfl (by decide) Try.sizeOf23 g 0 n cap (fnRow n (idF f)) w (by rw [fnRow_len]; omega) (by unfold maxLen; omega) (by omega) (fun j u hj => ?_) (fun u hu => ?_)).mono ?_
    · rw [Nat.zero_add, h.cellAt j (by have := (List.getElem?_eq_some_iff.1 hj).1; rw [fnRow_len] at this; omega)]; exact hj
    · simp only [fnRow, List.mem_map] at hu
      obtain ⟨k, _, rfl⟩ := hu; rfl
    · rintro _ w' ⟨v', rfl, h1, _, hB⟩
      exact ⟨v', rfl, ownsRow_to0 h1, ownsRow_new h1, Fr.of_below hB⟩

theorem clone_cells {w : World} {g n cap : Nat} {C : Nat → Nat} {rst : List Value} (h : Blk w g 3 (clRow n C rst)) (h0 : 0 < n) (hn : n ≤ 131072) :
    Calls Try.prog 47 #[.slice (some ⟨g, 0, none⟩) n cap] w fun e w' => ∃ g' cap' rst', e = .returned (.slice (some ⟨g', 0, none⟩) n cap') ∧ Blk w' g' 3 (clRow n C rst') ∧ w.heap.size ≤ g' ∧ Fr [] w w' := by
  obtain ⟨i0, hi, hz0, hz1, hz2⟩ := info_parts Try.info3
  refine (AnyE.slices_Clone Try.laysCloneI i0 (.int .i64 0) 1 8 hi hz0 hz1 hz2 rfl (by decide) Try.sizeOf3 g 0 n cap (fnRow n (cellF C)) w (by rw [fnRow_len]; omega) (by unfold maxLen; omega) (by omega) (fun j u hj => ?_) (fun u hu => ?_)).mono ?_
  · have hjl : j < n := by have := (List.getElem?_eq_some_iff.1 hj).1; rwa [fnRow_len] at this
    rw [Nat.zero_add, h.cell, clRow_at hjl, ← hj, fnRow_at hjl]
  · simp only [fnRow, List.mem_map] at hu
    obtain ⟨k, _, rfl⟩ := hu; rfl
  · rintro _ w' ⟨v', rfl, h1, _, hB⟩
    rcases h1.2 with ⟨_, hz⟩ | ⟨g', cap', cur, rfl, hg', hcur, hnc, hcm, hcs, htk⟩
    · omega
    · refine ⟨g', cap', cur.toList.drop n, rfl, ?_, hg', Fr.of_below hB⟩
      unfold clRow
      rw [← htk, Nat.mul_one, List.take_append_drop]
      unfold Blk; rw [Array.toArray_toList]; exact hcur

theorem table_copy {w : World} {pt : Nat} {T : Tb} {l : List Nat} (h : TableAt w pt T l) :
    Calls Try.prog 26 #[ptr pt] w fun e w' => ∃ pt', e = .returned (ptr pt') ∧ ∃ l', TableAt w' pt' T l' ∧ Fr [] w w' ∧ ∀ b ∈ l', w.heap.size ≤ b := by
  obtain ⟨cpc, rst, pa, gc, n, vi, C, la, h1, h2, h3, h4, rfl, hnd, hM, hs, hT, hinj, hb64⟩ := h
  have hok := h2.ok
  have hs1 := hok.hs
  have hs2 := hok.hb
  have hn := hM.pos
  have hn2 := hM.le
  have c0 := h1.cell 0
  have c1 := h1.cell 1
  have c2 := h1.cell 2
  have c3 := h1.cell 3
  simp only [List.getElem?_cons_zero, List.getElem?_cons_succ] at c0 c1 c2 c3
  have HR := Lib.hid (And.intro hnd (And.intro hM (And.intro hs (And.intro hT (And.intro hinj hb64))))); clear hnd hM hs hT hinj hb64
  have HA := Lib.hid (arena_copy (h2.same (w' := w.drew) (fun _ _ => rfl)))
  have HI := Lib.hid (fun (w' : World) (hf : Fr [] w w') => clone_ids (ownsRow_same (w' := w') h3 (fun k hk => hf.keep k (h3.lt k hk).2 (by simp))) (by omega))
  have HC := Lib.hid (fun (w' : World) (hf : Fr [] w w') => clone_cells (cap := cpc) (hf.blk h4 (by simp)) (by omega) (by omega))
  have hF0 : Fr [] w w.drew := (Fr.refl [] w).drew
  go_enter Try.func26, Try.ntmps26
  go_wp2_with (go_at_call 32; refine (table_valid pt _ c0).mono ?_; rintro e w' ⟨rfl, rfl⟩)
  go_region_held3 (fun w' => w'.cell? ⟨pt, 1, none⟩ = some (ptr pa) ∧ w'.cell? ⟨pt, 2, none⟩ = some vi ∧ w'.cell? ⟨pt, 3, none⟩ = some (.slice (some ⟨gc, 0, none⟩) n cpc))
    (first
      | go_keep
      | (exact ⟨hF3.cell c1 (by simp), hF3.cell c2 (by simp), hF3.cell c3 (by simp)⟩)
      | (exact ⟨hF4.cell c1 (by simp), hF4.cell c2 (by simp), hF4.cell c3 (by simp)⟩)
      | (exact ⟨hF5.cell c1 (by simp), hF5.cell c2 (by simp), hF5.cell c3 (by simp)⟩)
      | (exact ⟨(hF5.alloc _).cell c1 (by simp), (hF5.alloc _).cell c2 (by simp), (hF5.alloc _).cell c3 (by simp)⟩))
    (first
      | (go_at_call 45; refine HA.out.mono ?_; rintro e w3 ⟨pa', rfl, la', hA3, hF3, hl3⟩; have hla3 := hA3.lt; replace hF3 := hF0.trans' hF3)
      | (go_at_call 46; refine (HI.out _ hF3).mono ?_; rintro e w4 ⟨vi', rfl, hI4, hq4, hF4⟩; replace hA3 := hA3.fr hF4 (by simp); have hsz4 := hF3.size; have hF34 := hF4; replace hF4 := hF3.trans' hF4; obtain ⟨ai, ci, rfl⟩ := ownsRow_slice hI4; have hil4 := fun q hq => (hI4.lt q hq).2)
      | (go_at_call 47; refine (HC.out _ hF4).mono ?_; rintro e w5 ⟨gc', cpc', rst', rfl, hC5, hg5, hF5⟩; replace hA3 := hA3.fr hF5 (by simp); replace hI4 := ownsRow_same (w' := w5) hI4 (fun k hk => hF5.keep k (hI4.lt k hk).2 (by simp)); have hsz5 := hF4.size; replace hF5 := hF4.trans' hF5))
  have hb0 := Blk.new w5 [ptr w5.heap.size, ptr pa', .slice ai T.A.begun ci, .slice (some ⟨gc', 0, none⟩) n cpc'] 63
  have H5 := Lib.hid (And.intro hA3 (And.intro hI4 (And.intro hC5 hF5))); clear hA3 hI4 hC5
  have Hb1 := Lib.hid hb0; clear hb0
  have hq4' : ∀ q, (Value.slice ai T.A.begun ci).ownBlock = some q → w3.heap.size ≤ q := hq4
  have hl3' : ∀ b ∈ la', w.heap.size ≤ b := fun b hb => by have := hl3 b hb; simpa using this
  have hlt3 := H5.out.1.lt
  go_wp2
  go_ret
  have hFz : Fr [] w5 (w5.alloc (.cells #[ptr w5.heap.size, ptr pa', .slice ai T.A.begun ci, .slice (some ⟨gc', 0, none⟩) n cpc'] 63)) := (Fr.refl _ _).alloc _
  have hila : ∀ q, (Value.slice ai T.A.begun ci).ownBlock = some q → q < w5.heap.size := fun q hq => (H5.out.2.1.lt q hq).2
  have hgl := H5.out.2.2.1.lt
  obtain ⟨hnd, hM, hs, hT, hinj, hb64⟩ := HR.out
  refine ⟨w5.heap.size, rfl, w5.heap.size :: gc' :: ((Value.slice ai T.A.begun ci).ownBlock.toList ++ la'), ⟨cpc', rst', pa', gc', n, .slice ai T.A.begun ci, C, la', Hb1.out, H5.out.1.fr hFz (by simp), ownsRow_same H5.out.2.1 (fun k hk => hFz.keep k (H5.out.2.1.lt k hk).2 (by simp)), hFz.blk H5.out.2.2.1 (by simp), rfl, ?_, hM, hs, hT, hinj, hb64⟩, H5.out.2.2.2.trans' hFz, ?_⟩
  · have hlan : la'.Nodup := by obtain ⟨_, _, _, _, _, _, _, _, hq, _⟩ := H5.out.1; exact hq
    rw [List.nodup_cons, List.nodup_cons, List.nodup_append]
    refine ⟨?_, ?_, by cases (Value.slice ai T.A.begun ci).ownBlock <;> simp, hlan, ?_⟩
    · simp only [List.mem_cons, List.mem_append, Option.mem_toList, not_or]
      exact ⟨by omega, fun e => by have := hila _ e; omega, fun hm => by have := hlt3 _ hm; omega⟩
    · simp only [List.mem_append, Option.mem_toList, not_or]
      refine ⟨fun e => by have := hil4 _ e; omega, fun hm => ?_⟩
      have := hla3 _ hm
      have := hF34.size
      omega
    · intro x hx y hy e
      subst e
      have h1 := hq4' x (by simpa using hx)
      have h2 := hla3 x hy
      omega
  · intro b hb
    simp only [List.mem_cons, List.mem_append, Option.mem_toList] at hb
    have := H5.out.2.2.2.size
    rcases hb with rfl | rfl | hb | hb
    · omega
    · omega
    · have := hq4' b hb; omega
    · exact hl3' b hb
end Go.Proofs.Ytciacnnelpijeaa

/- A plain model of an intern table: the ids with their indexes, in the order in which they came; the free indexes, the last one first; how many indexes were given out. -/
namespace Go.Proofs.Ytciacnnelpijeaa

structure Md where
  slots : Nat
  L : List (Nat × Nat)
  free : List Nat
  given : Nat

namespace Md
def new (slots : Nat) : Md := { slots := slots, L := [], free := [], given := 0 }
def find (M : Md) (id : Nat) : Option Nat := (M.L.find? (fun x => x.1 == id)).map (·.2)
def idOf (M : Md) (i : Nat) : Option Nat := (M.L.find? (fun x => x.2 == i)).map (·.1)
def next (M : Md) : Option Nat := match M.free with
  | k :: _ => some k
  | [] => if M.given < M.slots then some M.given else none
def add (M : Md) (id i : Nat) : Md := { M with L := M.L ++ [(id, i)], free := M.free.tail, given := match M.free with | [] => M.given + 1 | _ => M.given }
def rem (M : Md) (id i : Nat) : Md := { M with L := M.L.filter (fun x => x.1 != id), free := i :: M.free }

structure PutR where
  idx : Nat
  added : Bool
  err : Nat
  M : Md
def put (M : Md) (id : Nat) : PutR := match M.find id with
  | some i => ⟨i, false, 0, M⟩
  | none => match M.next with
    | none => ⟨0, false, 4, M⟩
    | some i => ⟨i, true, 0, M.add id i⟩
structure DelR where
  err : Nat
  M : Md
def del (M : Md) (id : Nat) : DelR := match M.find id with
  | none => ⟨5, M⟩
  | some i => ⟨0, M.rem id i⟩

def ar (M : Md) : Ar := { slots := M.slots, begun := M.given, free := M.free }

structure Ok (M : Md) : Prop where
  ar : M.ar.ok
  ids : (M.L.map (·.1)).Nodup
  idx : (M.L.map (·.2)).Nodup
  used : ∀ x ∈ M.L, M.ar.isUsed x.2
  all : ∀ i, M.ar.isUsed i → ∃ id, (id, i) ∈ M.L
  cnt : M.L.length + M.free.length = M.given
  u64 : ∀ x ∈ M.L, x.1 < 18446744073709551616

theorem mem_find {M : Md} (h : (M.L.map (·.1)).Nodup) {id i : Nat} (hm : (id, i) ∈ M.L) : M.find id = some i := by
  unfold find
  generalize M.L = l at *
  induction l with
  | nil => cases hm
  | cons a r ih =>
    simp only [List.map_cons, List.nodup_cons] at h
    by_cases e : a.1 = id
    · rcases List.mem_cons.1 hm with rfl | hm
      · simp
      · exact absurd (List.mem_map.2 ⟨_, hm, e.symm⟩) h.1
    · rcases List.mem_cons.1 hm with rfl | hm
      · exact absurd rfl e
      · rw [List.find?_cons_of_neg (by simpa using e)]; exact ih h.2 hm
theorem find_mem {M : Md} {id i : Nat} (hf : M.find id = some i) : (id, i) ∈ M.L := by
  unfold find at hf
  simp only [Option.map_eq_some_iff] at hf
  obtain ⟨x, hx, rfl⟩ := hf
  have h1 := List.find?_some hx
  have h2 := List.mem_of_find?_eq_some hx
  simp at h1
  subst h1
  exact h2
theorem find_iff {M : Md} (h : M.Ok) {id i : Nat} : M.find id = some i ↔ (id, i) ∈ M.L := ⟨find_mem, mem_find h.ids⟩
theorem find_none {M : Md} {id : Nat} : M.find id = none ↔ ∀ i, (id, i) ∉ M.L := by
  unfold find
  simp only [Option.map_eq_none_iff, List.find?_eq_none, beq_iff_eq]
  constructor
  · intro h i hm; exact h _ hm rfl
  · rintro h ⟨a, b⟩ hm e; subst e; exact h b hm
theorem mem_idOf {M : Md} (h : (M.L.map (·.2)).Nodup) {id i : Nat} (hm : (id, i) ∈ M.L) : M.idOf i = some id := by
  unfold idOf
  generalize M.L = l at *
  induction l with
  | nil => cases hm
  | cons a r ih =>
    simp only [List.map_cons, List.nodup_cons] at h
    by_cases e : a.2 = i
    · rcases List.mem_cons.1 hm with rfl | hm
      · simp
      · exact absurd (List.mem_map.2 ⟨_, hm, e.symm⟩) h.1
    · rcases List.mem_cons.1 hm with rfl | hm
      · exact absurd rfl e
      · rw [List.find?_cons_of_neg (by simpa using e)]; exact ih h.2 hm
theorem idOf_mem {M : Md} {id i : Nat} (hf : M.idOf i = some id) : (id, i) ∈ M.L := by
  unfold idOf at hf
  simp only [Option.map_eq_some_iff] at hf
  obtain ⟨x, hx, rfl⟩ := hf
  have h1 := List.find?_some hx
  have h2 := List.mem_of_find?_eq_some hx
  simp at h1
  subst h1
  exact h2
theorem idOf_none {M : Md} {i : Nat} : M.idOf i = none ↔ ∀ id, (id, i) ∉ M.L := by
  unfold idOf
  simp only [Option.map_eq_none_iff, List.find?_eq_none, beq_iff_eq]
  constructor
  · intro h i hm; exact h _ hm rfl
  · rintro h ⟨a, b⟩ hm e; subst e; exact h a hm

theorem ok_new {slots : Nat} (h : slots ≤ 65536) : (new slots).Ok :=
  ⟨⟨h, by simp [new, ar], by simp [new, ar], by simp [new, ar]⟩, by simp [new], by simp [new], by simp [new], fun i hi => absurd hi.1 (Nat.not_lt_zero _), rfl, by simp [new]⟩

theorem ar_next (M : Md) : M.ar.next = M.next := by
  unfold ar next Ar.next; cases M.free <;> rfl
theorem ar_add {M : Md} {id i : Nat} (h : M.next = some i) : (M.add id i).ar = M.ar.alloc := by
  obtain ⟨s, L, f, g⟩ := M
  cases f <;> rfl
theorem ar_rem (M : Md) (id i : Nat) : (M.rem id i).ar = M.ar.put i := rfl

theorem alloc_ok {A : Ar} {i : Nat} (h : A.ok) (hn : A.next = some i) : A.alloc.ok := by
  obtain ⟨s, b, f⟩ := A
  cases f with
  | cons k r =>
    refine ⟨h.hs, h.hb, (List.nodup_cons.1 h.nd).2, fun x hx => h.lt x (List.mem_cons_of_mem _ hx)⟩
  | nil =>
    simp only [Ar.next] at hn
    by_cases hb : b < s
    · exact ⟨h.hs, by simp [Ar.alloc]; omega, by simp [Ar.alloc], by simp [Ar.alloc]⟩
    · rw [if_neg hb] at hn; cases hn
theorem isUsed_alloc' {A : Ar} {i : Nat} (hok : A.ok) (hn : A.next = some i) : (¬ A.isUsed i) ∧ ∀ j, A.alloc.isUsed j ↔ (A.isUsed j ∨ j = i) := by
  obtain ⟨slots, begun, free⟩ := A
  cases free with
  | cons k r =>
    obtain rfl : k = i := by simpa [Ar.next] using hn
    have hnd := hok.nd
    have hlt := hok.lt k (by simp)
    simp only [List.nodup_cons] at hnd
    dsimp only at hlt
    refine ⟨by simp [Ar.isUsed], fun j => ?_⟩
    simp only [Ar.isUsed, Ar.alloc, List.mem_cons, not_or]
    constructor
    · rintro ⟨a, b⟩
      by_cases e : j = k
      · exact .inr e
      · exact .inl ⟨a, e, b⟩
    · rintro (⟨a, _, b⟩ | rfl)
      · exact ⟨a, b⟩
      · exact ⟨hlt, hnd.1⟩
  | nil =>
    simp only [Ar.next] at hn
    by_cases hb : begun < slots
    · rw [if_pos hb] at hn
      obtain rfl : begun = i := by simpa using hn
      refine ⟨by simp [Ar.isUsed], fun j => ?_⟩
      simp only [Ar.isUsed, Ar.alloc, List.not_mem_nil, not_false_eq_true, and_true]
      omega
    · rw [if_neg hb] at hn; cases hn

theorem ok_add {M : Md} (h : M.Ok) {id i : Nat} (hid : id < 18446744073709551616) (hf : M.find id = none) (hn : M.next = some i) : (M.add id i).Ok := by
  have hn' : M.ar.next = some i := by rw [ar_next]; exact hn
  obtain ⟨hnu, hiff⟩ := isUsed_alloc' h.ar hn'
  have hno := find_none.1 hf
  refine ⟨by rw [ar_add hn]; exact alloc_ok h.ar hn', ?_, ?_, ?_, ?_, ?_, ?_⟩
  · simp only [add, List.map_append, List.map_cons, List.map_nil, List.nodup_append]
    refine ⟨h.ids, by simp, ?_⟩
    intro a ha b hb e
    simp only [List.mem_singleton] at hb
    obtain ⟨x, hx, rfl⟩ := List.mem_map.1 ha
    exact hno x.2 (by rw [← hb, ← e]; exact hx)
  · simp only [add, List.map_append, List.map_cons, List.map_nil, List.nodup_append]
    refine ⟨h.idx, by simp, ?_⟩
    intro a ha b hb e
    simp only [List.mem_singleton] at hb
    obtain ⟨x, hx, rfl⟩ := List.mem_map.1 ha
    have := h.used x hx
    rw [e, hb] at this
    exact hnu this
  · intro x hx
    rw [ar_add hn, hiff]
    simp only [add, List.mem_append, List.mem_singleton] at hx
    rcases hx with hx | rfl
    · exact .inl (h.used x hx)
    · exact .inr rfl
  · intro j hj
    rw [ar_add hn, hiff] at hj
    rcases hj with hj | rfl
    · obtain ⟨id', hm⟩ := h.all j hj
      exact ⟨id', by simp [add, hm]⟩
    · exact ⟨id, by simp [add]⟩
  · have := h.cnt
    obtain ⟨s, L, f, g⟩ := M
    cases f with
    | nil => simp [add] at *; omega
    | cons k r => simp [add] at *; omega
  · intro x hx
    simp only [add, List.mem_append, List.mem_singleton] at hx
    rcases hx with hx | rfl
    · exact h.u64 x hx
    · exact hid

theorem filter_ne {l : List (Nat × Nat)} {id i : Nat} (hnd : (l.map (·.1)).Nodup) (hm : (id, i) ∈ l) : (l.filter (fun x => x.1 != id)).length + 1 = l.length := by
  induction l with
  | nil => cases hm
  | cons a r ih =>
    simp only [List.map_cons, List.nodup_cons] at hnd
    by_cases e : a.1 = id
    · have hr : r.filter (fun x => x.1 != id) = r := List.filter_eq_self.2 (fun x hx => by
        simp only [bne_iff_ne]; intro e2; exact hnd.1 (List.mem_map.2 ⟨x, hx, e2.trans e.symm⟩))
      rw [List.filter_cons_of_neg (by simp [e]), hr]; simp
    · rcases List.mem_cons.1 hm with rfl | hm
      · exact absurd rfl e
      · rw [List.filter_cons_of_pos (by simpa using e), List.length_cons, List.length_cons, ih hnd.2 hm]

theorem isUsed_put' {A : Ar} {k : Nat} (_hu : A.isUsed k) (j : Nat) : (A.put k).isUsed j ↔ (A.isUsed j ∧ j ≠ k) := by
  simp only [Ar.isUsed, Ar.put, List.mem_cons, not_or]
  constructor
  · rintro ⟨a, b, c⟩; exact ⟨⟨a, c⟩, b⟩
  · rintro ⟨⟨a, c⟩, b⟩; exact ⟨a, b, c⟩

theorem ok_rem {M : Md} (h : M.Ok) {id i : Nat} (hm : (id, i) ∈ M.L) : (M.rem id i).Ok := by
  have hu := h.used _ hm
  have hiff := isUsed_put' hu
  have hne : ∀ x ∈ M.L, x.1 ≠ id → x.2 ≠ i := by
    intro x hx hn e
    have h1 := mem_idOf h.idx (show (x.1, x.2) ∈ M.L from hx)
    have h2 := mem_idOf h.idx hm
    rw [e, h2] at h1
    exact hn (by simpa using h1.symm)
  refine ⟨?_, ?_, ?_, ?_, ?_, ?_, ?_⟩
  · rw [ar_rem]
    refine ⟨h.ar.hs, h.ar.hb, ?_, ?_⟩
    · simp only [Ar.put, List.nodup_cons]; exact ⟨hu.2, h.ar.nd⟩
    · intro x hx; simp only [Ar.put, List.mem_cons] at hx
      rcases hx with rfl | hx
      · exact hu.1
      · exact h.ar.lt x hx
  · exact (List.Sublist.map _ List.filter_sublist).nodup h.ids
  · exact (List.Sublist.map _ List.filter_sublist).nodup h.idx
  · intro x hx
    simp only [rem, List.mem_filter, bne_iff_ne] at hx
    rw [ar_rem, hiff]
    exact ⟨h.used x hx.1, hne x hx.1 hx.2⟩
  · intro j hj
    rw [ar_rem, hiff] at hj
    obtain ⟨id', hm'⟩ := h.all j hj.1
    refine ⟨id', ?_⟩
    simp only [rem, List.mem_filter, bne_iff_ne]
    refine ⟨hm', fun e => ?_⟩
    subst e
    have h1 := mem_find h.ids hm
    rw [mem_find h.ids hm'] at h1
    exact hj.2 (by simpa using h1)
  · have := h.cnt
    have h2 := filter_ne h.ids hm
    simp only [rem, List.length_cons]
    omega
  · intro x hx
    simp only [rem, List.mem_filter] at hx
    exact h.u64 x hx.1

theorem ok_put {M : Md} (h : M.Ok) {id : Nat} (hid : id < 18446744073709551616) : (M.put id).M.Ok := by
  unfold put
  cases hf : M.find id with
  | some i => exact h
  | none =>
    cases hn : M.next with
    | none => exact h
    | some i => exact ok_add h hid hf hn
theorem ok_del {M : Md} (h : M.Ok) (id : Nat) : (M.del id).M.Ok := by
  unfold del
  cases hf : M.find id with
  | none => exact h
  | some i => exact ok_rem h (find_mem hf)
end Md
end Go.Proofs.Ytciacnnelpijeaa

/- The document's table in memory; New, valid, find, Get, ID, Len. -/
namespace Go.Proofs.Ytciacnnelpijeaa
open Go.RowKit
set_option maxRecDepth 10000
set_option maxHeartbeats 400000

def itemCells (L : List (Nat × Nat)) : List Value := L.flatMap fun p => [.int .u64 p.1, .int .i64 p.2]
theorem itemCells_len (L : List (Nat × Nat)) : (itemCells L).length = L.length * 2 := by
  induction L with
  | nil => rfl
  | cons p L ih => simp only [itemCells, List.flatMap_cons, List.length_append, List.length_cons, List.length_nil] at *; omega
theorem itemCells_snoc (L : List (Nat × Nat)) (p : Nat × Nat) : itemCells (L ++ [p]) = itemCells L ++ [.int .u64 p.1, .int .i64 p.2] := by simp [itemCells]
theorem itemCells_one (L : List (Nat × Nat)) : ∀ u ∈ itemCells L, u.oneCell' = true := by
  intro u hu
  simp only [itemCells, List.mem_flatMap] at hu
  obtain ⟨p, _, hp⟩ := hu
  simp at hp
  rcases hp with rfl | rfl <;> rfl
theorem itemCells_at (K : List (Nat × Nat)) : ∀ (i : Nat) (hi : i < K.length), (itemCells K)[i * 2]? = some (.int .u64 (K[i].1 : Int)) ∧ (itemCells K)[i * 2 + 1]? = some (.int .i64 (K[i].2 : Int)) := by
  induction K with
  | nil => intro i hi; simp at hi
  | cons p K ih =>
    intro i hi
    cases i with
    | zero => simp [itemCells]
    | succ i =>
      have := ih i (by simpa using hi)
      simp only [itemCells, List.flatMap_cons] at this ⊢
      rw [show (i + 1) * 2 = i * 2 + 2 by omega, show i * 2 + 2 + 1 = (i * 2 + 1) + 2 by omega]
      simpa using this
theorem item_at {w : World} {v : Value} {K : List (Nat × Nat)} (h : w.ownsRow 0 83 2 v K.length (itemCells K)) {i : Nat} (hi : i < K.length) : ∃ b cap, v = .slice (some ⟨b, 0, none⟩) K.length cap ∧ b < w.heap.size ∧
    w.cell? ⟨b, i * 2, none⟩ = some (.int .u64 (K[i].1 : Int)) ∧ w.cell? ⟨b, i * 2 + 1, none⟩ = some (.int .i64 (K[i].2 : Int)) := by
  obtain ⟨h1, h2⟩ := h
  rcases h2 with ⟨rfl, h0⟩ | ⟨g, cap, cur, rfl, _, hh, hn, hm, hsz, hxs⟩
  · omega
  · refine ⟨g, cap, rfl, (Array.getElem?_eq_some_iff.1 hh).1, ?_, ?_⟩
    all_goals
      have key : ∀ j, j < 2 → cur[i * 2 + j]? = (itemCells K)[i * 2 + j]? := by
        intro j hj
        rw [← hxs, List.getElem?_take, if_pos (by omega)]
        simp
      simp only [World.cell?, hh]
      simp
    · have := key 0 (by omega); simp at this; rw [this]; exact (itemCells_at K i hi).1
    · rw [key 1 (by omega)]; exact (itemCells_at K i hi).2

structure RTab (w : World) (pr : Nat) (vL vF : Value) (M : Md) : Prop where
  hd : Blk w pr 75 [.bool true, .int .i64 M.slots, vL, vF, .int .i64 M.given]
  items : w.ownsRow 0 83 2 vL M.L.length (itemCells M.L)
  free : w.ownsRow 0 3 1 vF M.free.length (encN M.free.reverse)
  apL : vL.ownBlock ≠ some pr
  apF : vF.ownBlock ≠ some pr
  apLF : ∀ q, vL.ownBlock = some q → vF.ownBlock ≠ some q

/-- The blocks of the document's table. -/
def rTB (pr : Nat) (vL vF : Value) : List Nat := pr :: (vL.ownBlock.toList ++ vF.ownBlock.toList)

section
variable {w w' : World} {pr : Nat} {vL vF : Value} {M : Md}
theorem RTab.fr {S : List Nat} (h : RTab w pr vL vF M) (hf : Fr S w w') (hs : ∀ q ∈ rTB pr vL vF, q ∉ S) : RTab w' pr vL vF M :=
  ⟨hf.blk h.hd (hs pr (by simp [rTB])), ownsRow_same h.items (fun q hq => hf.keep q (h.items.lt q hq).2 (hs q (by simp [rTB, hq]))), ownsRow_same h.free (fun q hq => hf.keep q (h.free.lt q hq).2 (hs q (by simp [rTB, hq]))), h.apL, h.apF, h.apLF⟩
theorem RTab.fr0 (h : RTab w pr vL vF M) (hf : Fr [] w w') : RTab w' pr vL vF M := h.fr hf (by simp)
theorem RTab.drewN (h : RTab w pr vL vF M) (k : Nat) : RTab (w.drewN k) pr vL vF M := h.fr0 ((Fr.refl [] w).drewN k)
theorem RTab.lt (h : RTab w pr vL vF M) : ∀ q ∈ rTB pr vL vF, q < w.heap.size := by
  intro q hq
  simp only [rTB, List.mem_cons, List.mem_append, Option.mem_toList] at hq
  rcases hq with rfl | hq | hq
  · exact h.hd.lt
  · exact (h.items.lt q hq).2
  · exact (h.free.lt q hq).2
theorem RTab.slL (h : RTab w pr vL vF M) : ∃ a cap, vL = .slice a M.L.length cap := ownsRow_slice h.items
theorem RTab.slF (h : RTab w pr vL vF M) : ∃ a cap, vF = .slice a M.free.length cap := ownsRow_slice h.free

theorem rnew_w (w : World) (slots : Nat) (hs : slots ≤ 65536) :
    Calls Try.prog 23 #[.int .i64 slots] w fun e w' => ∃ pr, e = .returned (.tuple #[ptr pr, .int .i64 0]) ∧ RTab w' pr (.slice none 0 0) (.slice none 0 0) (Md.new slots) ∧ Fr [] w w' ∧ w.heap.size ≤ pr := by
  have hd0 : decide ((slots : Int) < 0) = false := decide_eq_false (by omega)
  have hd1 : decide ((slots : Int) > 65536) = false := decide_eq_false (by omega)
  go_enter Try.func23, Try.ntmps23
  go_wp2
  go_ret2
  have hb := Blk.new w [.bool true, .int .i64 slots, .slice none 0 0, .slice none 0 0, .int .i64 0] 75
  exact ⟨w.heap.size, rfl, ⟨hb, World.ownsRow_nil _ _ _ _, World.ownsRow_nil _ _ _ _, by simp [Value.ownBlock], by simp [Value.ownBlock], by simp [Value.ownBlock]⟩, (Fr.refl _ _).alloc _, Nat.le_refl _⟩
theorem rnew_bad (w : World) (n : Int) (hn : n < 0 ∨ 65536 < n) :
    Calls Try.prog 23 #[.int .i64 n] w fun e w' => e = .returned (.tuple #[.pointer none, .int .i64 2]) ∧ w' = w := by
  by_cases h : n < 0
  · have hd0 : decide (n < 0) = true := decide_eq_true h
    go_enter Try.func23, Try.ntmps23
    go_wp2
    go_ret2
    exact ⟨rfl, rfl⟩
  · have hd0 : decide (n < 0) = false := decide_eq_false h
    have hd1 : decide (n > 65536) = true := decide_eq_true (by omega)
    go_enter Try.func23, Try.ntmps23
    go_wp2
    go_ret2
    exact ⟨rfl, rfl⟩

theorem rvalid_w (h : RTab w pr vL vF M) : Calls Try.prog 48 #[ptr pr] w fun e w' => e = .returned (.bool true) ∧ w' = w := by
  have c0 := h.hd.cell 0
  simp only [List.getElem?_cons_zero] at c0
  go_enter Try.func48, Try.ntmps48
  go_wp2
  go_ret
  exact ⟨rfl, rfl⟩
theorem rvalid_nil (w : World) : Calls Try.prog 48 #[.pointer none] w fun e w' => e = .returned (.bool false) ∧ w' = w := by
  go_enter Try.func48, Try.ntmps48
  go_wp2
  go_ret
  exact ⟨rfl, rfl⟩

theorem rfind_w (h : RTab w pr vL vF M) (hL : M.L.length ≤ 65536) (id : Nat) :
    Calls Try.prog 49 #[ptr pr, .int .u64 id] w fun e w' => w' = w ∧ ((e = .returned (.int .i64 (-1)) ∧ M.find id = none) ∨ ∃ i, ∃ hi : i < M.L.length, e = .returned (.int .i64 i) ∧ M.L[i].1 = id) := by
  obtain ⟨a2, cap2, rfl⟩ := h.slL
  have c2 := h.hd.cell 2
  simp only [List.getElem?_cons_zero, List.getElem?_cons_succ] at c2
  have HE := Lib.hid h.items; clear h
  go_enter Try.func49, Try.ntmps49
  go_wp2
  go_loopw [5] (fun sy wr => wr = w ∧ ∃ j : Nat, j ≤ M.L.length ∧ sy = .int .i64 j ∧ Hid (∀ i (hi : i < M.L.length), i < j → M.L[i].1 ≠ id)) (fun sy _ => M.L.length - (intOf sy).toNat)
  case atStart => exact ⟨rfl, 0, Nat.zero_le _, rfl, Lib.hid (fun i _ h => absurd h (Nat.not_lt_zero _))⟩
  case round =>
    obtain ⟨rfl, j, hj, rfl, HN⟩ := hrel
    by_cases hjK : j < M.L.length
    · obtain ⟨b, cap, e, hb, q0, q1⟩ := item_at HE.out hjK
      simp only [Value.slice.injEq, true_and] at e
      obtain ⟨rfl, rfl⟩ := e
      have hj1 : (j : Int) < M.L.length := by omega
      have hj0 : (0 : Int) ≤ j := by omega
      by_cases he : M.L[j].1 = id
      · have hb1 : ((M.L[j].1 : Int) == (id : Int)) = true := by simp [he]
        have He := Lib.hid he; clear he
        generalize hx : M.L[j].1 = x at *
        have Hx := Lib.hid hx; clear hx
        go_wp2
        go_ret
        exact ⟨rfl, .inr ⟨j, hjK, rfl, by rw [Hx.out, He.out]⟩⟩
      · have hb1 : ((M.L[j].1 : Int) == (id : Int)) = false := by simp; omega
        have He := Lib.hid he; clear he
        generalize hx : M.L[j].1 = x at *
        have Hx := Lib.hid hx; clear hx
        go_wp2
        go_roundw
        case rel =>
          refine ⟨trivial, j + 1, by omega, by go_num, Lib.hid (fun i hi hlt => ?_)⟩
          by_cases e : i = j
          · subst e; rw [Hx.out]; exact He.out
          · exact HN.out i hi (by omega)
        case measure => simp [intOf]; omega
    · obtain rfl : j = M.L.length := by omega
      go_wp2
      go_ret
      refine ⟨rfl, .inl ⟨rfl, Md.find_none.2 (fun i hm => ?_)⟩⟩
      obtain ⟨k, hk, e⟩ := List.mem_iff_getElem.1 hm
      exact HN.out k hk hk (by rw [e])

theorem rget_w (h : RTab w pr vL vF M) (hok : M.Ok) (id : Nat) :
    Calls Try.prog 39 #[ptr pr, .int .u64 id] w fun e w' => e = .returned (.tuple #[.int .i64 ((M.find id).getD 0), .bool (M.find id).isSome]) ∧ w' = w := by
  have hcnt := hok.cnt
  have hb := hok.ar.hb
  have hs := hok.ar.hs
  simp only [Md.ar] at hb hs
  have HV := Lib.hid (rvalid_w h)
  have HF := Lib.hid (rfind_w h (by omega) id)
  obtain ⟨a2, cap2, rfl⟩ := h.slL
  have c2 := h.hd.cell 2
  simp only [List.getElem?_cons_zero, List.getElem?_cons_succ] at c2
  have HE := Lib.hid h.items; clear h
  have Hids := Lib.hid hok.ids
  clear hok
  generalize hR : M.find id = R at *
  have HR := Lib.hid hR; clear hR
  go_enter Try.func39, Try.ntmps39
  go_wp2_with fail
  refine HV.out.mono ?_
  rintro _ w ⟨rfl, rfl⟩
  go_wp2_with fail
  refine HF.out.mono ?_
  rintro _ w ⟨rfl, hr⟩
  rcases hr with ⟨rfl, hn⟩ | ⟨k, hk, rfl, he⟩
  · have Hn := Lib.hid hn; clear hn
    go_wp2
    go_ret2
    rw [Hn.out]
    exact ⟨rfl, rfl⟩
  · have hf := Md.mem_find Hids.out (show (id, M.L[k].2) ∈ M.L by rw [← he]; exact List.getElem_mem hk)
    rw [HR.out] at hf
    have Hf := Lib.hid hf
    obtain ⟨b, cap, e, hb, q0, q1⟩ := item_at HE.out hk
    simp only [Value.slice.injEq, true_and] at e
    obtain ⟨rfl, rfl⟩ := e
    clear hf he
    have hj1 : (k : Int) < M.L.length := by omega
    have hj0 : (0 : Int) ≤ k := by omega
    generalize M.L[k].2 = x at *
    generalize M.L[k].1 = y at *
    go_wp2
    go_ret2
    rw [Hf.out]
    exact ⟨rfl, rfl⟩

theorem rid_w (h : RTab w pr vL vF M) (hok : M.Ok) (i : Int) :
    Calls Try.prog 40 #[ptr pr, .int .i64 i] w fun e w' => e = .returned (.tuple #[.int .u64 ((if 0 ≤ i then M.idOf i.toNat else none).getD 0), .bool (if 0 ≤ i then M.idOf i.toNat else none).isSome]) ∧ w' = w := by
  have hcnt := hok.cnt
  have hb := hok.ar.hb
  have hs := hok.ar.hs
  simp only [Md.ar] at hb hs
  have HV := Lib.hid (rvalid_w h)
  obtain ⟨a2, cap2, rfl⟩ := h.slL
  have c2 := h.hd.cell 2
  simp only [List.getElem?_cons_zero, List.getElem?_cons_succ] at c2
  have HE := Lib.hid h.items; clear h
  have Hidx := Lib.hid hok.idx
  clear hok
  generalize hR : (if 0 ≤ i then M.idOf i.toNat else none) = R
  have HR := Lib.hid hR; clear hR
  go_enter Try.func40, Try.ntmps40
  go_wp2_with fail
  refine HV.out.mono ?_
  rintro _ w ⟨rfl, rfl⟩
  go_wp2
  go_loopw [6] (fun sy wr => wr = w ∧ ∃ j : Nat, j ≤ M.L.length ∧ sy = .int .i64 j ∧ Hid (∀ k (hi : k < M.L.length), k < j → (M.L[k].2 : Int) ≠ i)) (fun sy _ => M.L.length - (intOf sy).toNat)
  case atStart => exact ⟨rfl, 0, Nat.zero_le _, rfl, Lib.hid (fun i _ h => absurd h (Nat.not_lt_zero _))⟩
  case round =>
    obtain ⟨rfl, j, hj, rfl, HN⟩ := hrel
    by_cases hjK : j < M.L.length
    · obtain ⟨b, cap, e, hb, q0, q1⟩ := item_at HE.out hjK
      simp only [Value.slice.injEq, true_and] at e
      obtain ⟨rfl, rfl⟩ := e
      have hj1 : (j : Int) < M.L.length := by omega
      have hj0 : (0 : Int) ≤ j := by omega
      by_cases he : (M.L[j].2 : Int) = i
      · have hb1 : ((M.L[j].2 : Int) == i) = true := by simp [he]
        have hm : M.idOf i.toNat = some M.L[j].1 := Md.mem_idOf Hidx.out (by rw [← he, Int.toNat_natCast]; exact List.getElem_mem hjK)
        have hRe : R = some M.L[j].1 := by rw [← HR.out, if_pos (by omega), hm]
        have Hm := Lib.hid hRe; clear he hm hRe
        generalize M.L[j].1 = x at *
        generalize M.L[j].2 = y at *
        go_wp2
        go_ret2
        rw [Hm.out]
        exact ⟨rfl, rfl⟩
      · have hb1 : ((M.L[j].2 : Int) == i) = false := by simp [he]
        have He := Lib.hid he; clear he
        generalize hx : M.L[j].2 = x at *
        have Hx := Lib.hid hx; clear hx
        go_wp2
        go_roundw
        case rel =>
          refine ⟨trivial, j + 1, by omega, by go_num, Lib.hid (fun i hi hlt => ?_)⟩
          by_cases e : i = j
          · subst e; rw [Hx.out]; exact He.out
          · exact HN.out i hi (by omega)
        case measure => simp [intOf]; omega
    · obtain rfl : j = M.L.length := by omega
      have hRn : R = none := by
        rw [← HR.out]
        split
        · rw [Md.idOf_none]
          intro id hm
          obtain ⟨k, hk, e⟩ := List.mem_iff_getElem.1 hm
          refine HN.out k hk hk ?_
          rw [e]; simp; omega
        · rfl
      have HRn := Lib.hid hRn; clear hRn
      go_wp2
      go_ret2
      rw [HRn.out]
      exact ⟨rfl, rfl⟩

theorem rlen_w (h : RTab w pr vL vF M) :
    Calls Try.prog 41 #[ptr pr] w fun e w' => e = .returned (.int .i64 M.L.length) ∧ w' = w := by
  have HV := Lib.hid (rvalid_w h)
  obtain ⟨a2, cap2, rfl⟩ := h.slL
  have c2 := h.hd.cell 2
  simp only [List.getElem?_cons_zero, List.getElem?_cons_succ] at c2
  clear h
  go_enter Try.func41, Try.ntmps41
  go_wp2_with fail
  refine HV.out.mono ?_
  rintro _ w ⟨rfl, rfl⟩
  go_wp2
  go_ret
  exact ⟨rfl, rfl⟩
end
end Go.Proofs.Ytciacnnelpijeaa

namespace Go.Proofs.Ytciacnnelpijeaa
open Go.RowKit Go.Sort
set_option maxRecDepth 10000
set_option maxHeartbeats 800000

/-- The cells of a row of ids. -/
def encU (d : Array Int) : List Value := d.toList.map (Value.int .u64)
theorem encU_at {d : Array Int} {t : Nat} (ht : t < d.size) : (encU d)[t]? = some (.int .u64 d[t]!) := by
  simp [encU, ht]
theorem encU_swp {d : Array Int} {i j : Nat} (hi : i < d.size) (hj : j < d.size) : ((encU d).set i (.int .u64 d[j]!)).set j (.int .u64 d[i]!) = encU (swp d i j) := by
  simp only [encU, swp, Array.toList_setIfInBounds, List.map_set]

/-- Since w, the block has come to hold d ahead of its spare cells; all else is as it was, or new. -/
structure SR (w wr : World) (blk off : Nat) (d : Array Int) : Prop where
  off0 : off = 0
  row : ∃ rest, Blk wr blk 23 (encU d ++ rest) ∧ ∃ l0, Blk w blk 23 l0 ∧ l0.length = d.size + rest.length
  fr : Fr [blk] w wr

section
variable {w wr : World} {blk off : Nat} {d : Array Int}
theorem encU_len (d : Array Int) : (encU d).length = d.size := by simp [encU]
theorem SR.cell (h : SR w wr blk off d) {t : Nat} (ht : t < d.size) : wr.cell? ⟨blk, off + t, none⟩ = some (.int .u64 d[t]!) := by
  obtain ⟨rest, h1, _⟩ := h.row
  rw [h.off0, Nat.zero_add, h1.cell, List.getElem?_append_left (by rw [encU_len]; exact ht), encU_at ht]
theorem SR.frozen (h : SR w wr blk off d) (t : Nat) : wr.frozen? ⟨blk, t, none⟩ = false := by
  obtain ⟨rest, h1, _⟩ := h.row
  exact h1.frozen t
theorem SR.drewN (h : SR w wr blk off d) (q : Nat) : SR w (wr.drewN q) blk off d := by
  obtain ⟨rest, h1, h2⟩ := h.row
  exact ⟨h.off0, ⟨rest, h1.drewN q, h2⟩, h.fr.drewN q⟩
theorem SR.alloc (h : SR w wr blk off d) (o : Obj) : SR w (wr.alloc o) blk off d := by
  obtain ⟨rest, h1, h2⟩ := h.row
  exact ⟨h.off0, ⟨rest, h1.alloc o, h2⟩, h.fr.alloc o⟩
theorem SR.other (h : SR w wr blk off d) {b i : Nat} (u : Value) (hb : w.heap.size ≤ b) (hne : b ≠ blk) : SR w (wr.setCell ⟨b, i, none⟩ u) blk off d := by
  obtain ⟨rest, h1, h2⟩ := h.row
  exact ⟨h.off0, ⟨rest, h1.other _ _ (Ne.symm hne), h2⟩, h.fr.setCell _ _ (.inr hb)⟩
theorem SR.swap (h : SR w wr blk off d) (q : Nat) {i j : Nat} (hi : i < d.size) (hj : j < d.size) :
    SR w (((wr.drewN q).setCell ⟨blk, off + i, none⟩ (.int .u64 d[j]!)).setCell ⟨blk, off + j, none⟩ (.int .u64 d[i]!)) blk off (swp d i j) := by
  obtain ⟨rest, h1, l0, h2, h3⟩ := h.row
  refine ⟨h.off0, ⟨rest, ?_, l0, h2, by rw [h3, size_swp]⟩, ((h.fr.drewN q).setCell _ _ (.inl (by simp))).setCell _ _ (.inl (by simp))⟩
  rw [h.off0, Nat.zero_add, Nat.zero_add, ← encU_swp hi hj]
  have := ((h1.drewN q).set i (.int .u64 d[j]!)).set j (.int .u64 d[i]!)
  rw [List.set_append_left _ _ (by rw [encU_len]; exact hi), List.set_append_left _ _ (by rw [List.length_set, encU_len]; exact hj)] at this
  exact this
theorem SR.lt (h : SR w wr blk off d) : blk < wr.heap.size := by
  obtain ⟨rest, h1, _⟩ := h.row
  exact h1.lt
end

theorem nan_u (x : Int) (w : World) : Calls Try.prog 75 #[.int .u64 x] w fun e w' => e = .returned (.bool false) ∧ w' = w := by
  go_enter Try.func75, Try.ntmps75
  go_wp2
  go_ret
  exact ⟨by simp, rfl⟩
theorem less_u (x y : Int) (w : World) : Calls Try.prog 65 #[.int .u64 x, .int .u64 y] w fun e w' => e = .returned (.bool (ltInt x y)) ∧ w' = w := by
  go_enter Try.func65, Try.ntmps65
  go_wp2_with (go_at_call 75; refine (nan_u _ _).mono ?_; rintro e w' ⟨rfl, rfl⟩)
  go_ret
  exact ⟨rfl, rfl⟩

theorem ins_u {w wr : World} {blk off cap a b : Nat} {d : Array Int} (h : SR w wr blk off d) (hab : a ≤ b) (hb : b ≤ d.size) (hsz : d.size < 4611686018427387904) :
    Calls Try.prog 59 #[.slice (some ⟨blk, off, none⟩) d.size cap, .int .i64 a, .int .i64 b] wr fun e w' => e = .returned (.tuple #[]) ∧ SR w w' blk off (insertionSort ltInt d a b) := by
  have HS := Lib.hid h; clear h
  go_enter Try.func59, Try.ntmps59
  go_wp2
  go_loopw [6] (fun vi wr => ∃ (i : Nat) (dk : Array Int), vi = .int .i64 i ∧ a < i ∧ i ≤ b + 1 ∧ dk.size = d.size ∧ Hid (SR w wr blk off dk) ∧ Hid (insOuter ltInt a b i dk = insOuter ltInt a b (a + 1) d)) (fun vi _ => b + 1 - (intOf vi).toNat)
  case atStart => exact ⟨a + 1, d, by go_num, by omega, by omega, rfl, HS, Lib.hid rfl⟩
  case round =>
    clear HS
    obtain ⟨i, dk, rfl, hai, hib, hsk, HS, HO⟩ := hrel
    by_cases hlt : i < b
    · go_wp2
      go_loopw [7] (fun vj wr2 => ∃ (j : Nat) (dj : Array Int), vj = .int .i64 j ∧ a ≤ j ∧ j ≤ i ∧ dj.size = d.size ∧ Hid (SR w wr2 blk off dj) ∧ Hid (insInner ltInt a j dj = insInner ltInt a i dk)) (fun vj _ => (intOf vj).toNat)
      case atStart => exact ⟨i, dk, rfl, by omega, Nat.le_refl _, hsk, HS, Lib.hid rfl⟩
      case round =>
        clear HS
        obtain ⟨j, dj, rfl, haj, hji, hsj, HS, HI⟩ := hrel
        have OUT : ∀ q, (j ≤ a ∨ ltInt dj[j]! dj[j - 1]! = false) → Hid (SR w (wr.drewN q) blk off dj) ∧ Hid (insOuter ltInt a b (i + 1) dj = insOuter ltInt a b (a + 1) d) := fun q hs =>
          ⟨Lib.hid (HS.out.drewN q), Lib.hid (by rw [← HO.out, insOuter_go _ _ _ _ _ hlt, ← HI.out, insInner_stop _ _ _ _ hs])⟩
        have HOUT := Lib.hid OUT; clear OUT
        by_cases hja : a < j
        · have hc : ∀ t, t < d.size → wr.cell? ⟨blk, off + t, none⟩ = some (.int .u64 dj[t]!) := fun t ht => HS.out.cell (by omega)
          have hf : ∀ t, t < d.size → wr.frozen? ⟨blk, off + t, none⟩ = false := fun t _ => HS.out.frozen _
          obtain ⟨G, hG⟩ : ∃ G : Nat → Int, ∀ t, dj[t]! = G t := ⟨fun t => dj[t]!, fun _ => rfl⟩
          simp only [hG] at hc
          have HG := Lib.hid hG; clear hG
          cases hl : ltInt (G j) (G (j - 1)) with
          | true =>
            go_wp2
            go_quiet (first | (go_at_call 65; refine Calls.quiet_of_same (less_u _ _ _)))
            go_wp2
            go_region
            all_goals go_wp2
            go_roundw
            case rel =>
              refine ⟨j - 1, swp dj j (j - 1), by congr 1; omega, by omega, by omega, by rw [size_swp]; exact hsj, Lib.hid ?_, Lib.hid ?_⟩
              · have := HS.out.swap (nq + 1) (i := j) (j := j - 1) (by omega) (by omega)
                rw [HG.out, HG.out] at this
                exact this
              · rw [← HI.out, insInner_go ltInt a j dj hja (by rw [HG.out, HG.out]; exact hl)]
            case measure => simp [intOf]; omega
          | false =>
            go_wp2
            go_quiet (first | (go_at_call 65; refine Calls.quiet_of_same (less_u _ _ _)))
            go_wp2
            go_roundw
            case rel =>
              obtain ⟨h1, h2⟩ := HOUT.out nq (.inr (by rw [HG.out, HG.out]; exact hl))
              exact ⟨i + 1, dj, by go_num, by omega, by omega, hsj, h1, h2⟩
            case measure => simp [intOf]; omega
        · go_wp2
          go_quiet (first | (go_at_call 65; refine Calls.quiet_of_same (less_u _ _ _)))
          go_wp2
          go_roundw
          case rel =>
            obtain ⟨h1, h2⟩ := HOUT.out nq (.inl (by omega))
            exact ⟨i + 1, dj, by go_num, by omega, by omega, hsj, h1, h2⟩
          case measure => simp [intOf]; omega
    · go_wp2
      go_end0
      exact ⟨rfl, by unfold Sort.insertionSort; rw [← HO.out, insOuter_stop _ _ _ _ _ hlt]; exact HS.out⟩
end Go.Proofs.Ytciacnnelpijeaa
