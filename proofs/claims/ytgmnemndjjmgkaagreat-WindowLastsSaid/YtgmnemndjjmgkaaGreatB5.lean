/- A region that draws its order, of whose operations ONE changes the world (a call, a store, an append): one walk in the order of the text serves every order. -/
import Derived.Deep.WholeRow
import Derived.StillTailTactics
import Derived.Test.YtgmnemndjjmgkaaGreatB4
import Derived.Sort.WalkA
import Derived.Sort.Walk13a
import Derived.CellFam
import Derived.BigGuard
import Derived.BigCall
import Derived.Deep.Draws
import Derived.Test.YtgmnemndjjmgkaaGreatB1
import Derived.Sort.WalkB3
import Derived.Sort.WalkB12
import Derived.Sort.WalkD1
import Derived.Sort.LotD4
import Derived.Shelf.Lay
import Derived.Shelf.Small.Bits
import Derived.Ground.Names2Prog
import Derived.Sort.Walk7
import Derived.Sort.WalkC
import Derived.Sort.WalkC4
import Derived.Sort.WalkA6
import Derived.Sort.Walk13
import Derived.Sort.AssemblyPlain
import Derived.Deep.Cut
import Derived.Deep.RegionHeld3
import Derived.Shelf.SlGeneric
import Derived.Ground.SlgnProg
import Derived.Shelf.SlicesE.Clone
import Derived.Deep.Quiet
set_option linter.unusedSimpArgs false
set_option linter.unusedVariables false
/- arena: Copy. -/
namespace Go.Proofs.YtgmnemndjjmgkaaGreat
open Go.RowKit
set_option maxRecDepth 10000
set_option maxHeartbeats 1600000

theorem arena_copy {w : World} {pa : Nat} {A : Ar} {l : List Nat} (h : ArenaAt w pa A l) :
    Calls Tryz.prog 101 #[ptr pa] w fun e w' => ∃ pa', e = .returned (ptr pa') ∧ ∃ l', ArenaAt w' pa' A l' ∧ Fr [] w w' ∧ ∀ b ∈ l', w.heap.size ≤ b := by
  have hok := h.ok
  have hs := hok.hs
  have hb := hok.hb
  have HA := Lib.hid h
  obtain ⟨v0, bs, st, af, h1, h2, h3, rfl, hnd, hl, _, hst, hch⟩ := h
  have c0 := h1.cell 0
  have c1 := h1.cell 1
  have c2 := h1.cell 2
  have c3 := h1.cell 3
  have c4 := h1.cell 4
  have c5 := h1.cell 5
  simp only [List.getElem?_cons_zero, List.getElem?_cons_succ] at c0 c1 c2 c3 c4 c5
  obtain ⟨a2, cp2, rfl⟩ := ownsRow_slice h2
  have hpa := h1.lt
  have H1 := Lib.hid (And.intro h1 (And.intro h2 h3)); clear h1 h2 h3
  have hbl : bs.length ≤ 1024 := by omega
  go_enter Tryz.func101, Tryz.ntmps101
  go_wp2_with (go_at_call 139; refine (arena_valid pa _ c0).mono ?_; rintro e w' ⟨rfl, rfl⟩)
  go_still_tail 16, (by kernel_rfl)
  change wpList _ _ _ _ _ w.drew
  have hF0 : Fr [] w (w.alloc (.cells #[.pointer (some ⟨w.heap.size, 0, none⟩), .slice none 0 0, .int .i64 A.slots, .int .i64 A.begun, .int .i64 A.used, .int .i64 (lastOf A.free)] 198)).drew := ((Fr.refl [] w).alloc _).drew
  have hb0 := (Blk.new w [ptr w.heap.size, .slice none 0 0, .int .i64 A.slots, .int .i64 A.begun, .int .i64 A.used, .int .i64 (lastOf A.free)] 198).drew
  have d1 : (w.alloc (.cells #[.pointer (some ⟨w.heap.size, 0, none⟩), .slice none 0 0, .int .i64 A.slots, .int .i64 A.begun, .int .i64 A.used, .int .i64 (lastOf A.free)] 198)).cell? ⟨pa, 1, none⟩ = some (.slice a2 bs.length cp2) := ((Fr.refl [] w).alloc _).cell c1 (by simp)
  go_wp2
  have hsz1 : (w.alloc (.cells #[.pointer (some ⟨w.heap.size, 0, none⟩), .slice none 0 0, .int .i64 A.slots, .int .i64 A.begun, .int .i64 A.used, .int .i64 (lastOf A.free)] 198)).drew.heap.size = w.heap.size + 1 := by simp
  have HB0 : Hid (Blk (w.alloc (.cells #[.pointer (some ⟨w.heap.size, 0, none⟩), .slice none 0 0, .int .i64 A.slots, .int .i64 A.begun, .int .i64 A.used, .int .i64 (lastOf A.free)] 198)).drew w.heap.size 198 [ptr w.heap.size, .slice none 0 0, .int .i64 A.slots, .int .i64 A.begun, .int .i64 A.used, .int .i64 (lastOf A.free)]) := Lib.hid hb0
  have HF0 := Lib.hid hF0; clear hF0 hb0
  generalize (w.alloc (.cells #[.pointer (some ⟨w.heap.size, 0, none⟩), .slice none 0 0, .int .i64 A.slots, .int .i64 A.begun, .int .i64 A.used, .int .i64 (lastOf A.free)] 198)).drew = w1 at *
  clear c0 c1 c2 c3 c4 c5 d1
  go_loopw [37] (fun si wr => ∃ (i : Nat) (v : Value) (bs' : List Nat), i ≤ bs.length ∧ si = .int .i64 i ∧ bs'.length = i ∧ Hid (Fr [] w wr) ∧ Hid (Blk wr w.heap.size 198 [ptr w.heap.size, v, .int .i64 A.slots, .int .i64 A.begun, .int .i64 A.used, .int .i64 (lastOf A.free)]) ∧
    wr.ownsRow 0 209 1 v i (bs'.map ptr) ∧ Hid (∀ q, v.ownBlock = some q → w.heap.size < q ∧ q ∉ bs') ∧ Hid (bs'.Nodup ∧ ∀ b ∈ bs', w.heap.size < b) ∧
    Hid (∀ (j b b' : Nat), bs[j]? = some b → bs'[j]? = some b' → ∃ cs, Blk w b 211 cs ∧ Blk wr b' 211 cs)) (fun si _ => bs.length - (intOf si).toNat)
  case atStart => exact ⟨0, .slice none 0 0, [], Nat.zero_le _, rfl, rfl, HF0, HB0, World.ownsRow_nil _ _ _ _, Lib.hid (fun q e => by cases e), Lib.hid ⟨List.nodup_nil, by simp⟩, Lib.hid (fun j b b' _ h => by simp at h)⟩
  case round =>
    clear HB0 HF0 hsz1
    obtain ⟨i, v, bs', hi, rfl, hbl', HF, HB, hown, HQ, HN, HC⟩ := hrel
    obtain ⟨a8, c8, rfl⟩ := ownsRow_slice hown
    have c1 := HB.out.cell 1
    have z1 := HB.out.frozen 1
    simp only [List.getElem?_cons_zero, List.getElem?_cons_succ] at c1
    by_cases hlt : i < bs.length
    · have hil : (i : Int) < bs.length := by omega
      obtain ⟨g, cap, e, _, hg, hcg, _⟩ := ownsRow_at H1.out.2.1 hlt
      simp only [Value.slice.injEq, true_and] at e
      obtain ⟨rfl, rfl⟩ := e
      have hbi : bs[i]? = some bs[i] := List.getElem?_eq_getElem hlt
      obtain ⟨cs, hcs, hrs⟩ := H1.out.2.2 i bs[i] hbi
      generalize bs[i] = b at *
      have hcg' : wr.cell? ⟨g, i, none⟩ = some (ptr b) := HF.out.cell (by rw [hcg]; simp [hbi]) (by simp)
      have hcsr := HF.out.blk hcs (by simp)
      have hcl := (hrs 0 (by decide)).2.2.2
      have hone : ∀ u ∈ cs, u.oneCell' = true := by
        intro u hu
        obtain ⟨k, hk⟩ := List.mem_iff_getElem?.1 hu
        have hk2 : k < 192 := by rw [← hcl]; exact (List.getElem?_eq_some_iff.1 hk).1
        obtain ⟨r0, r1, ⟨t, r2⟩, _⟩ := hrs (k / 3) (by omega)
        rcases (show k = k / 3 * 3 ∨ k = k / 3 * 3 + 1 ∨ k = k / 3 * 3 + 2 by omega) with e | e | e
        · rw [← e, hk] at r0; cases r0; rfl
        · rw [← e, hk] at r1; cases r1; rfl
        · rw [← e, hk] at r2; cases r2; rfl
      have hinfo : (Tryz.prog.info? 211).map (·.size) = some cs.toArray.size := by
        have : (Tryz.prog.info? 211).map (·.size) = some 192 := by kernel_rfl
        rw [this]; simp [hcl]
      have hz : Tryz.zeroCells211.size = cs.toArray.size := by
        have := zero_block_len
        simp only [Array.length_toList] at this
        rw [this]; simp [hcl]
      have Hone := Lib.hid hone; clear hone
      have Hcs := Lib.hid hcs; clear hcs hrs
      go_wp2
      refine wp_load_row 211 _ rfl b rfl 211 cs.toArray (0, 0) _ hcsr Tryz.underlying211 rfl hinfo ?_
      have hst := run_storeCells_new (P := Tryz.prog) wr 211 Tryz.zeroCells211 cs.toArray hinfo hz (by simpa using Hone.out)
      simp only [List.toList_toArray] at hst
      have hFa : Fr [] wr (wr.alloc (.cells cs.toArray 211)) := (Fr.refl [] wr).alloc _
      have c1' := hFa.cell c1 (by simp)
      have hbn : Blk (wr.alloc (.cells cs.toArray 211)) wr.heap.size 211 cs := Blk.new wr cs 211
      have Hbn := Lib.hid hbn; clear hbn
      have HFa := Lib.hid hFa; clear hFa
      go_wp2_with (at_builtin; refine wpList_app1 rfl _ _ 196 rfl 209 (.pointer none) 8 Tryz.underlying196 Tryz.info209 rfl (.slice a8 i c8) i _ rfl ((hown.alloc _).alloc _) (wr.heap.size + 1) (ptr wr.heap.size) rfl (cell_new1 _ _ _ _ (by simp)) rfl (by omega) (by decide) ?_; intro g' cap' w4 hown4 hgrow4 hg4; have hF4 : Fr (Value.slice a8 i c8).ownBlock.toList (wr.alloc (.cells cs.toArray 211)) w4 := ((Fr.refl _ _).alloc _).grown hgrow4 (fun q e => .inl (by simp [e])); have hB4 : Blk w4 w.heap.size 198 [ptr w.heap.size, .slice a8 i c8, .int .i64 A.slots, .int .i64 A.begun, .int .i64 A.used, .int .i64 (lastOf A.free)] := hF4.blk (HFa.out.blk HB.out (by simp)) (fun hm => by have := (HQ.out w.heap.size (by simpa using hm)).1; omega); have c4 := hB4.cell 1; have z4 := hB4.frozen 1; simp only [List.getElem?_cons_zero, List.getElem?_cons_succ] at c4)
      have hlow : ∀ b' ∈ bs', b' < wr.heap.size := by
        intro b' hb'
        obtain ⟨j, hj, e⟩ := List.mem_iff_getElem.1 hb'
        obtain ⟨_, _, h2⟩ := HC.out j _ b' (List.getElem?_eq_getElem (show j < bs.length by omega)) (by rw [List.getElem?_eq_getElem hj, e])
        exact h2.lt
      have hhd := HB.out.lt
      have hol : ∀ q, (Value.slice a8 i c8).ownBlock = some q → q < wr.heap.size := fun q hq => (hown.lt q hq).2
      simp only [World.size_alloc] at hg4
      have hgn : g' ≠ w.heap.size := by
        rintro rfl
        rcases hg4 with e | e
        · have := (HQ.out _ e).1; omega
        · omega
      go_roundw
      case rel =>
        refine ⟨i + 1, .slice (some ⟨g', 0, none⟩) (i + 1) cap', bs' ++ [wr.heap.size], by omega, by go_num, by simp; omega, Lib.hid ?_, Lib.hid (hB4.set 1 _), ?_, Lib.hid (fun q e => ?_), Lib.hid ⟨?_, fun x hx => ?_⟩, Lib.hid (fun j x y hj hy => ?_)⟩
        · exact ((HF.out.trans' HFa.out).trans hF4 (fun q hq => .inr (Nat.le_of_lt (HQ.out q (by simpa using hq)).1))).setCell _ _ (.inr (Nat.le_refl _))
        · have e : (bs' ++ [wr.heap.size]).map ptr = bs'.map ptr ++ [ptr wr.heap.size] := by simp
          rw [e]
          exact ownsRow_other hown4 _ _ (by simpa [Value.ownBlock] using hgn)
        · simp only [Value.ownBlock, Option.some.injEq] at e
          subst e
          simp only [List.mem_append, List.mem_singleton, not_or]
          rcases hg4 with e | e
          · have h1 := hol _ e
            exact ⟨(HQ.out _ e).1, (HQ.out _ e).2, by omega⟩
          · refine ⟨by omega, fun hm => ?_, by omega⟩
            have := hlow _ hm
            omega
        · rw [List.nodup_append]
          refine ⟨HN.out.1, by simp, fun x hx y hy e => ?_⟩
          simp at hy
          have := hlow x hx
          omega
        · simp only [List.mem_append, List.mem_singleton] at hx
          rcases hx with hx | rfl
          · exact HN.out.2 x hx
          · omega
        · by_cases hji : j < i
          · rw [List.getElem?_append_left (by omega)] at hy
            obtain ⟨cs', k1, k2⟩ := HC.out j x y hj hy
            have hym := List.mem_of_getElem? hy
            refine ⟨cs', k1, (hF4.blk (HFa.out.blk k2 (by simp)) (fun hm => (HQ.out y (by simpa using hm)).2 hym)).other _ _ ?_⟩
            have := HN.out.2 y hym
            simp; omega
          · have hjl : j < (bs' ++ [wr.heap.size]).length := (List.getElem?_eq_some_iff.1 hy).1
            simp at hjl
            obtain rfl : j = i := by omega
            rw [List.getElem?_append_right (by omega)] at hy
            simp [hbl'] at hy
            subst hy
            have : x = b := by rw [hbi] at hj; simpa using hj.symm
            subst this
            refine ⟨cs, Hcs.out, (hF4.blk Hbn.out (fun hm => ?_)).other _ _ ?_⟩
            · have := hol wr.heap.size (by simpa using hm)
              omega
            · simp; omega
      case measure => simp [intOf]; omega
    · obtain rfl : i = bs.length := by omega
      have Hown := Lib.hid hown; clear hown
      go_wp2
      go_ret
      refine ⟨w.heap.size, rfl, w.heap.size :: ((Value.slice a8 bs.length c8).ownBlock.toList ++ bs'), ⟨.slice a8 bs.length c8, bs', st, af, HB.out, by rw [hbl']; exact Hown.out, ?_, rfl, ?_, by rw [hbl', hl], hok, hst, hch⟩, HF.out, ?_⟩
      · intro j b' hj
        have hjl : j < bs'.length := (List.getElem?_eq_some_iff.1 hj).1
        have hbj : bs[j]? = some bs[j] := List.getElem?_eq_getElem (by omega)
        obtain ⟨cs, k1, k2⟩ := HC.out j _ b' hbj hj
        obtain ⟨cs0, k3, k4⟩ := H1.out.2.2 j _ hbj
        obtain rfl := k1.eq k3
        exact ⟨cs, k2, k4⟩
      · rw [List.nodup_cons, List.nodup_append]
        refine ⟨?_, by cases (Value.slice a8 bs.length c8).ownBlock <;> simp, HN.out.1, ?_⟩
        · simp only [List.mem_append, Option.mem_toList, not_or]
          refine ⟨fun e => ?_, fun hm => ?_⟩
          · have := (HQ.out _ e).1; omega
          · have := HN.out.2 _ hm; omega
        · intro x hx y hy e
          subst e
          exact (HQ.out x (by simpa using hx)).2 hy
      · intro x hx
        simp only [List.mem_cons, List.mem_append, Option.mem_toList] at hx
        rcases hx with rfl | hx | hx
        · exact Nat.le_refl _
        · exact Nat.le_of_lt (HQ.out x hx).1
        · exact Nat.le_of_lt (HN.out.2 x hx)
end Go.Proofs.YtgmnemndjjmgkaaGreat

/- slices.Sort at uint64: what the walks share; cmp.Less; insertionSortOrdered. -/
namespace Go.Proofs.YtgmnemndjjmgkaaGreat
open Go.RowKit Go.Sort
set_option maxRecDepth 10000
set_option maxHeartbeats 800000

/-- The cells of a row of ids. -/
def encU (d : Array Int) : List Value := d.toList.map (Value.int .u64)
theorem encU_at {d : Array Int} {t : Nat} (ht : t < d.size) : (encU d)[t]? = some (.int .u64 d[t]!) := by
  simp [encU, ht]
theorem encU_swp {d : Array Int} {i j : Nat} (hi : i < d.size) (hj : j < d.size) : ((encU d).set i (.int .u64 d[j]!)).set j (.int .u64 d[i]!) = encU (swp d i j) := by
  simp only [encU, swp, Array.toList_setIfInBounds, List.map_set]

/-- Since w, the block has come to hold d ahead of its spare cells; all else is as it was, or new. -/
structure SR (w wr : World) (blk off : Nat) (d : Array Int) : Prop where
  off0 : off = 0
  row : ∃ rest, Blk wr blk 26 (encU d ++ rest) ∧ ∃ l0, Blk w blk 26 l0 ∧ l0.length = d.size + rest.length
  fr : Fr [blk] w wr

section
variable {w wr : World} {blk off : Nat} {d : Array Int}
theorem encU_len (d : Array Int) : (encU d).length = d.size := by simp [encU]
theorem SR.cell (h : SR w wr blk off d) {t : Nat} (ht : t < d.size) : wr.cell? ⟨blk, off + t, none⟩ = some (.int .u64 d[t]!) := by
  obtain ⟨rest, h1, _⟩ := h.row
  rw [h.off0, Nat.zero_add, h1.cell, List.getElem?_append_left (by rw [encU_len]; exact ht), encU_at ht]
theorem SR.frozen (h : SR w wr blk off d) (t : Nat) : wr.frozen? ⟨blk, t, none⟩ = false := by
  obtain ⟨rest, h1, _⟩ := h.row
  exact h1.frozen t
theorem SR.drewN (h : SR w wr blk off d) (q : Nat) : SR w (wr.drewN q) blk off d := by
  obtain ⟨rest, h1, h2⟩ := h.row
  exact ⟨h.off0, ⟨rest, h1.drewN q, h2⟩, h.fr.drewN q⟩
theorem SR.alloc (h : SR w wr blk off d) (o : Obj) : SR w (wr.alloc o) blk off d := by
  obtain ⟨rest, h1, h2⟩ := h.row
  exact ⟨h.off0, ⟨rest, h1.alloc o, h2⟩, h.fr.alloc o⟩
theorem SR.other (h : SR w wr blk off d) {b i : Nat} (u : Value) (hb : w.heap.size ≤ b) (hne : b ≠ blk) : SR w (wr.setCell ⟨b, i, none⟩ u) blk off d := by
  obtain ⟨rest, h1, h2⟩ := h.row
  exact ⟨h.off0, ⟨rest, h1.other _ _ (Ne.symm hne), h2⟩, h.fr.setCell _ _ (.inr hb)⟩
theorem SR.swap (h : SR w wr blk off d) (q : Nat) {i j : Nat} (hi : i < d.size) (hj : j < d.size) :
    SR w (((wr.drewN q).setCell ⟨blk, off + i, none⟩ (.int .u64 d[j]!)).setCell ⟨blk, off + j, none⟩ (.int .u64 d[i]!)) blk off (swp d i j) := by
  obtain ⟨rest, h1, l0, h2, h3⟩ := h.row
  refine ⟨h.off0, ⟨rest, ?_, l0, h2, by rw [h3, size_swp]⟩, ((h.fr.drewN q).setCell _ _ (.inl (by simp))).setCell _ _ (.inl (by simp))⟩
  rw [h.off0, Nat.zero_add, Nat.zero_add, ← encU_swp hi hj]
  have := ((h1.drewN q).set i (.int .u64 d[j]!)).set j (.int .u64 d[i]!)
  rw [List.set_append_left _ _ (by rw [encU_len]; exact hi), List.set_append_left _ _ (by rw [List.length_set, encU_len]; exact hj)] at this
  exact this
theorem SR.lt (h : SR w wr blk off d) : blk < wr.heap.size := by
  obtain ⟨rest, h1, _⟩ := h.row
  exact h1.lt
end

end Go.Proofs.YtgmnemndjjmgkaaGreat

/- slices.Sort at uint64: siftDownOrdered, heapSortOrdered, reverseRangeOrdered. -/
namespace Go.Proofs.YtgmnemndjjmgkaaGreat
open Go.RowKit Go.Sort
set_option maxRecDepth 10000
set_option maxHeartbeats 1600000

end Go.Proofs.YtgmnemndjjmgkaaGreat

/- slices.Sort at uint64: heapSortOrdered, reverseRangeOrdered, order2Ordered, medianOrdered, medianAdjacentOrdered. -/
namespace Go.Proofs.YtgmnemndjjmgkaaGreat
open Go.RowKit Go.Sort
set_option maxRecDepth 10000
set_option maxHeartbeats 1600000

end Go.Proofs.YtgmnemndjjmgkaaGreat

/- slices.Sort at uint64: order2Ordered, medianOrdered, medianAdjacentOrdered, choosePivotOrdered. -/
namespace Go.Proofs.YtgmnemndjjmgkaaGreat
open Go.RowKit Go.Sort
set_option maxRecDepth 10000
set_option maxHeartbeats 1600000

/-- The row, and a counter of swaps in a block of its own. -/
structure SM (w wr : World) (blk off : Nat) (d : Array Int) (sb s : Nat) : Prop where
  sr : SR w wr blk off d
  cnt : Blk wr sb 3 [.int .i64 s]
  ne : sb ≠ blk
  new : w.heap.size ≤ sb

section
variable {w wr : World} {blk off : Nat} {d : Array Int} {sb s : Nat}
theorem SM.drewN (h : SM w wr blk off d sb s) (q : Nat) : SM w (wr.drewN q) blk off d sb s := ⟨h.sr.drewN q, h.cnt.drewN q, h.ne, h.new⟩
end
end Go.Proofs.YtgmnemndjjmgkaaGreat

/- slices.Sort at uint64: choosePivotOrdered. -/
namespace Go.Proofs.YtgmnemndjjmgkaaGreat
open Go.RowKit Go.Sort
set_option maxRecDepth 10000
set_option maxHeartbeats 1600000

end Go.Proofs.YtgmnemndjjmgkaaGreat

/- slices.Sort at uint64: bits.Len, nextPowerOfTwo, xorshift.Next, breakPatternsOrdered. -/
namespace Go.Proofs.YtgmnemndjjmgkaaGreat
open Go.RowKit Go.Sort
set_option maxRecDepth 10000
set_option maxHeartbeats 1600000

/-- The row, and the generator's number in a block of its own. -/
structure SX (w wr : World) (blk off : Nat) (d : Array Int) (rb R : Nat) : Prop where
  sr : SR w wr blk off d
  cnt : Blk wr rb 263 [.int .u64 R]
  ne : rb ≠ blk
  new : w.heap.size ≤ rb

section
variable {w wr : World} {blk off : Nat} {d : Array Int} {rb R : Nat}
theorem SX.drewN (h : SX w wr blk off d rb R) (q : Nat) : SX w (wr.drewN q) blk off d rb R := ⟨h.sr.drewN q, h.cnt.drewN q, h.ne, h.new⟩
end

end Go.Proofs.YtgmnemndjjmgkaaGreat

/- slices.Sort at uint64: partitionEqualOrdered. -/
namespace Go.Proofs.YtgmnemndjjmgkaaGreat
open Go.RowKit Go.Sort
set_option maxRecDepth 10000
set_option maxHeartbeats 3200000

end Go.Proofs.YtgmnemndjjmgkaaGreat

/- slices.Sort at uint64: partitionOrdered. -/
namespace Go.Proofs.YtgmnemndjjmgkaaGreat
open Go.RowKit Go.Sort
set_option maxRecDepth 10000
set_option maxHeartbeats 12800000

end Go.Proofs.YtgmnemndjjmgkaaGreat

/- slices.Sort at uint64: partialInsertionSortOrdered. -/
namespace Go.Proofs.YtgmnemndjjmgkaaGreat
open Go.RowKit Go.Sort
set_option maxRecDepth 10000
set_option maxHeartbeats 12800000

end Go.Proofs.YtgmnemndjjmgkaaGreat

/- slices.Sort at uint64: pdqsortOrdered. -/
namespace Go.Proofs.YtgmnemndjjmgkaaGreat
open Go.RowKit Go.Sort
set_option maxRecDepth 100000
set_option maxHeartbeats 6400000

/-- What a round of pdqsort does, told of its own values R. -/
structure PdqR (d : Array Int) (a b lim : Nat) (wb wp : Bool) (R : Rd Int) : Prop where
  bal : wb = true → R.d1 = d ∧ R.lim = lim
  unb : wb = false → R.d1 = breakPatterns d a b ∧ R.lim = lim - 1
  c : R.c = choosePivot ltInt R.d1 a b
  dec : R.c.2 = .decreasing → R.d2 = reverseRange R.d1 a b ∧ R.pivot = (b - 1) - (R.c.1 - a) ∧ R.hint = .increasing
  ndec : R.c.2 ≠ .decreasing → R.d2 = R.d1 ∧ R.pivot = R.c.1 ∧ R.hint = R.c.2
  yes : (wb && wp && decide (R.hint = .increasing)) = true → R.pi = partialInsertionSort ltInt R.d2 a b
  no : (wb && wp && decide (R.hint = .increasing)) = false → R.pi = (R.d2, false)
  s1 : R.d1.size = d.size
  c1 : a ≤ R.c.1 ∧ R.c.1 < b
  s2 : R.d2.size = d.size
  pv : a ≤ R.pivot ∧ R.pivot < b
  s3 : R.pi.1.size = d.size
  B3 : Sort.Below ltInt a b R.pi.1
  lm : R.lim ≤ lim
  done : R.pi.2 = true → pdq ltInt d a b lim wb wp = R.pi.1
  eq : R.pi.2 = false → (decide (a > 0) && !ltInt R.pi.1[a - 1]! R.pi.1[R.pivot]!) = true → ∀ mid d4, partitionEqual ltInt R.pi.1 a b R.pivot = (mid, d4) → a < mid ∧ mid ≤ b → pdq ltInt d a b lim wb wp = pdq ltInt d4 mid b R.lim wb wp
  left : R.pi.2 = false → (decide (a > 0) && !ltInt R.pi.1[a - 1]! R.pi.1[R.pivot]!) = false → ∀ mid ap d4, partition ltInt R.pi.1 a b R.pivot = (mid, ap, d4) → a ≤ mid ∧ mid < b → mid - a < b - mid →
    pdq ltInt d a b lim wb wp = pdq ltInt (pdq ltInt d4 a mid R.lim true true) (mid + 1) b R.lim (decide (mid - a ≥ (b - a) / 8)) ap
  right : R.pi.2 = false → (decide (a > 0) && !ltInt R.pi.1[a - 1]! R.pi.1[R.pivot]!) = false → ∀ mid ap d4, partition ltInt R.pi.1 a b R.pivot = (mid, ap, d4) → a ≤ mid ∧ mid < b → ¬ mid - a < b - mid →
    pdq ltInt d a b lim wb wp = pdq ltInt (pdq ltInt d4 (mid + 1) b R.lim true true) a mid R.lim (decide (b - mid ≥ (b - a) / 8)) ap

end Go.Proofs.YtgmnemndjjmgkaaGreat

/- slices.Sort at uint64. -/
namespace Go.Proofs.YtgmnemndjjmgkaaGreat
open Go.RowKit Go.Sort
set_option maxRecDepth 10000
set_option maxHeartbeats 800000

end Go.Proofs.YtgmnemndjjmgkaaGreat

/- intern: List. -/
namespace Go.Proofs.YtgmnemndjjmgkaaGreat
open Go.RowKit
set_option maxRecDepth 10000
set_option maxHeartbeats 800000

def encId (l : List Nat) : List Value := l.map fun (x : Nat) => .int .u64 x
def sortN (l : List Nat) : List Nat := l.mergeSort (fun x y => decide (x ≤ y))
end Go.Proofs.YtgmnemndjjmgkaaGreat

/- intern: Copy. -/
namespace Go.Proofs.YtgmnemndjjmgkaaGreat
open Go.RowKit
set_option maxRecDepth 10000
set_option maxHeartbeats 800000

def Tryz.laysCloneU_ren : Go.Shelf.Ren := ⟨fun | 41 => 148 | n => n, fun | 22 => 48 | 23 => 26 | 4 => 4 | n => n, fun | n => n⟩
theorem Tryz.laysCloneU : Go.Proofs.SlLaysE0.n41 Tryz.prog Tryz.laysCloneU_ren := {
  mixed := by kernel_rfl
  f41 := ⟨Tryz.f148.name, by decide, Tryz.func148.trans (congrArg some (by kernel_rfl))⟩
  t4 := Tryz.underlying4
  a4 := Tryz.isAgg4
  z4 := Tryz.sizeOf4
  v4 := Tryz.zeroValue4
  t22 := Tryz.underlying48
  a22 := Tryz.isAgg48
  z22 := Tryz.sizeOf48
  v22 := Tryz.zeroValue48 }
def Tryz.laysCloneI_ren : Go.Shelf.Ren := ⟨fun | 41 => 105 | n => n, fun | 22 => 94 | 23 => 3 | 4 => 4 | n => n, fun | n => n⟩
theorem Tryz.laysCloneI : Go.Proofs.SlLaysE0.n41 Tryz.prog Tryz.laysCloneI_ren := {
  mixed := by kernel_rfl
  f41 := ⟨Tryz.f105.name, by decide, Tryz.func105.trans (congrArg some (by kernel_rfl))⟩
  t4 := Tryz.underlying4
  a4 := Tryz.isAgg4
  z4 := Tryz.sizeOf4
  v4 := Tryz.zeroValue4
  t22 := Tryz.underlying94
  a22 := Tryz.isAgg94
  z22 := Tryz.sizeOf94
  v22 := Tryz.zeroValue94 }

theorem ownsRow_to0 {w : World} {base : Nat} {e : TypeId} {size : Nat} {v : Value} {n : Nat} {xs : List Value} (h : w.ownsRow base e size v n xs) : w.ownsRow 0 e size v n xs :=
  ⟨h.1, h.2.elim .inl (fun ⟨g, cap, cur, k1, _, k3⟩ => .inr ⟨g, cap, cur, k1, Nat.zero_le _, k3⟩)⟩
theorem ownsRow_new {w : World} {base : Nat} {e : TypeId} {size : Nat} {v : Value} {n : Nat} {xs : List Value} (h : w.ownsRow base e size v n xs) : ∀ q, v.ownBlock = some q → base ≤ q := by
  intro q hq
  rcases h.2 with ⟨rfl, _⟩ | ⟨g, cap, cur, rfl, hb, _⟩
  · cases hq
  · simp [Value.ownBlock] at hq; omega

theorem clone_ids {w : World} {v : Value} {n : Nat} {f : Nat → Nat} (h : w.ownsRow 0 26 1 v n (fnRow n (idF f))) (hn : n ≤ 65536) :
    Calls Tryz.prog 148 #[v] w fun e w' => ∃ v', e = .returned v' ∧ w'.ownsRow 0 26 1 v' n (fnRow n (idF f)) ∧ (∀ q, v'.ownBlock = some q → w.heap.size ≤ q) ∧ Fr [] w w' := by
  obtain ⟨i0, hi, hz0, hz1, hz2⟩ := info_parts Tryz.info26
  rcases h.2 with ⟨rfl, rfl⟩ | ⟨g, cap, cur, rfl, hg, hcur, hnc, hcm, hcs, htk⟩
  · refine (AnyE.slices_Clone_nil Tryz.laysCloneU 0 0 w).mono ?_
    rintro _ _ ⟨rfl, rfl⟩
    exact ⟨_, rfl, h, fun q e => (by cases e), Fr.refl _ _⟩
  · refine (AnyE.slices_Clone Tryz.laysCloneU i0 (.int .u64 0) 1 8 hi hz0 hz1 hz2 rfl (by decide) Tryz.sizeOf26 g 0 n cap (fnRow n (idF f)) w (by rw [fnRow_len]; omega) (by unfold maxLen; omega) (by omega) (fun j u hj => ?_) (fun u hu => ?_)).mono ?_
    · rw [Nat.zero_add, h.cellAt j (by have := (List.getElem?_eq_some_iff.1 hj).1; rw [fnRow_len] at this; omega)]; exact hj
    · simp only [fnRow, List.mem_map] at hu
      obtain ⟨k, _, rfl⟩ := hu; rfl
    · rintro _ w' ⟨v', rfl, h1, _, hB⟩
      exact ⟨v', rfl, ownsRow_to0 h1, ownsRow_new h1, Fr.of_below hB⟩

theorem clone_cells {w : World} {g n cap : Nat} {C : Nat → Nat} {rst : List Value} (h : Blk w g 3 (clRow n C rst)) (h0 : 0 < n) (hn : n ≤ 131072) :
    Calls Tryz.prog 105 #[.slice (some ⟨g, 0, none⟩) n cap] w fun e w' => ∃ g' cap' rst', e = .returned (.slice (some ⟨g', 0, none⟩) n cap') ∧ Blk w' g' 3 (clRow n C rst') ∧ w.heap.size ≤ g' ∧ Fr [] w w' := by
  obtain ⟨i0, hi, hz0, hz1, hz2⟩ := info_parts Tryz.info3
  refine (AnyE.slices_Clone Tryz.laysCloneI i0 (.int .i64 0) 1 8 hi hz0 hz1 hz2 rfl (by decide) Tryz.sizeOf3 g 0 n cap (fnRow n (cellF C)) w (by rw [fnRow_len]; omega) (by unfold maxLen; omega) (by omega) (fun j u hj => ?_) (fun u hu => ?_)).mono ?_
  · have hjl : j < n := by have := (List.getElem?_eq_some_iff.1 hj).1; rwa [fnRow_len] at this
    rw [Nat.zero_add, h.cell, clRow_at hjl, ← hj, fnRow_at hjl]
  · simp only [fnRow, List.mem_map] at hu
    obtain ⟨k, _, rfl⟩ := hu; rfl
  · rintro _ w' ⟨v', rfl, h1, _, hB⟩
    rcases h1.2 with ⟨_, hz⟩ | ⟨g', cap', cur, rfl, hg', hcur, hnc, hcm, hcs, htk⟩
    · omega
    · refine ⟨g', cap', cur.toList.drop n, rfl, ?_, hg', Fr.of_below hB⟩
      unfold clRow
      rw [← htk, Nat.mul_one, List.take_append_drop]
      unfold Blk; rw [Array.toArray_toList]; exact hcur

theorem table_copy {w : World} {pt : Nat} {T : Tb} {l : List Nat} (h : TableAt w pt T l) :
    Calls Tryz.prog 102 #[ptr pt] w fun e w' => ∃ pt', e = .returned (ptr pt') ∧ ∃ l', TableAt w' pt' T l' ∧ Fr [] w w' ∧ ∀ b ∈ l', w.heap.size ≤ b := by
  obtain ⟨cpc, rst, pa, gc, n, vi, C, la, h1, h2, h3, h4, rfl, hnd, hM, hs, hT, hinj, hb64⟩ := h
  have hok := h2.ok
  have hs1 := hok.hs
  have hs2 := hok.hb
  have hn := hM.pos
  have hn2 := hM.le
  have c0 := h1.cell 0
  have c1 := h1.cell 1
  have c2 := h1.cell 2
  have c3 := h1.cell 3
  simp only [List.getElem?_cons_zero, List.getElem?_cons_succ] at c0 c1 c2 c3
  have HR := Lib.hid (And.intro hnd (And.intro hM (And.intro hs (And.intro hT (And.intro hinj hb64))))); clear hnd hM hs hT hinj hb64
  have HA := Lib.hid (arena_copy (h2.same (w' := w.drew) (fun _ _ => rfl)))
  have HI := Lib.hid (fun (w' : World) (hf : Fr [] w w') => clone_ids (ownsRow_same (w' := w') h3 (fun k hk => hf.keep k (h3.lt k hk).2 (by simp))) (by omega))
  have HC := Lib.hid (fun (w' : World) (hf : Fr [] w w') => clone_cells (cap := cpc) (hf.blk h4 (by simp)) (by omega) (by omega))
  have hF0 : Fr [] w w.drew := (Fr.refl [] w).drew
  go_enter Tryz.func102, Tryz.ntmps102
  go_wp2_with (go_at_call 142; refine (table_valid pt _ c0).mono ?_; rintro e w' ⟨rfl, rfl⟩)
  go_region_held3 (fun w' => w'.cell? ⟨pt, 1, none⟩ = some (ptr pa) ∧ w'.cell? ⟨pt, 2, none⟩ = some vi ∧ w'.cell? ⟨pt, 3, none⟩ = some (.slice (some ⟨gc, 0, none⟩) n cpc))
    (first
      | go_keep
      | (exact ⟨hF3.cell c1 (by simp), hF3.cell c2 (by simp), hF3.cell c3 (by simp)⟩)
      | (exact ⟨hF4.cell c1 (by simp), hF4.cell c2 (by simp), hF4.cell c3 (by simp)⟩)
      | (exact ⟨hF5.cell c1 (by simp), hF5.cell c2 (by simp), hF5.cell c3 (by simp)⟩)
      | (exact ⟨(hF5.alloc _).cell c1 (by simp), (hF5.alloc _).cell c2 (by simp), (hF5.alloc _).cell c3 (by simp)⟩))
    (first
      | (go_at_call 101; refine HA.out.mono ?_; rintro e w3 ⟨pa', rfl, la', hA3, hF3, hl3⟩; have hla3 := hA3.lt; replace hF3 := hF0.trans' hF3)
      | (go_at_call 148; refine (HI.out _ hF3).mono ?_; rintro e w4 ⟨vi', rfl, hI4, hq4, hF4⟩; replace hA3 := hA3.fr hF4 (by simp); have hsz4 := hF3.size; have hF34 := hF4; replace hF4 := hF3.trans' hF4; obtain ⟨ai, ci, rfl⟩ := ownsRow_slice hI4; have hil4 := fun q hq => (hI4.lt q hq).2)
      | (go_at_call 105; refine (HC.out _ hF4).mono ?_; rintro e w5 ⟨gc', cpc', rst', rfl, hC5, hg5, hF5⟩; replace hA3 := hA3.fr hF5 (by simp); replace hI4 := ownsRow_same (w' := w5) hI4 (fun k hk => hF5.keep k (hI4.lt k hk).2 (by simp)); have hsz5 := hF4.size; replace hF5 := hF4.trans' hF5))
  have hb0 := Blk.new w5 [ptr w5.heap.size, ptr pa', .slice ai T.A.begun ci, .slice (some ⟨gc', 0, none⟩) n cpc'] 204
  have H5 := Lib.hid (And.intro hA3 (And.intro hI4 (And.intro hC5 hF5))); clear hA3 hI4 hC5
  have Hb1 := Lib.hid hb0; clear hb0
  have hq4' : ∀ q, (Value.slice ai T.A.begun ci).ownBlock = some q → w3.heap.size ≤ q := hq4
  have hl3' : ∀ b ∈ la', w.heap.size ≤ b := fun b hb => by have := hl3 b hb; simpa using this
  have hlt3 := H5.out.1.lt
  go_wp2
  go_ret
  have hFz : Fr [] w5 (w5.alloc (.cells #[ptr w5.heap.size, ptr pa', .slice ai T.A.begun ci, .slice (some ⟨gc', 0, none⟩) n cpc'] 204)) := (Fr.refl _ _).alloc _
  have hila : ∀ q, (Value.slice ai T.A.begun ci).ownBlock = some q → q < w5.heap.size := fun q hq => (H5.out.2.1.lt q hq).2
  have hgl := H5.out.2.2.1.lt
  obtain ⟨hnd, hM, hs, hT, hinj, hb64⟩ := HR.out
  refine ⟨w5.heap.size, rfl, w5.heap.size :: gc' :: ((Value.slice ai T.A.begun ci).ownBlock.toList ++ la'), ⟨cpc', rst', pa', gc', n, .slice ai T.A.begun ci, C, la', Hb1.out, H5.out.1.fr hFz (by simp), ownsRow_same H5.out.2.1 (fun k hk => hFz.keep k (H5.out.2.1.lt k hk).2 (by simp)), hFz.blk H5.out.2.2.1 (by simp), rfl, ?_, hM, hs, hT, hinj, hb64⟩, H5.out.2.2.2.trans' hFz, ?_⟩
  · have hlan : la'.Nodup := by obtain ⟨_, _, _, _, _, _, _, _, hq, _⟩ := H5.out.1; exact hq
    rw [List.nodup_cons, List.nodup_cons, List.nodup_append]
    refine ⟨?_, ?_, by cases (Value.slice ai T.A.begun ci).ownBlock <;> simp, hlan, ?_⟩
    · simp only [List.mem_cons, List.mem_append, Option.mem_toList, not_or]
      exact ⟨by omega, fun e => by have := hila _ e; omega, fun hm => by have := hlt3 _ hm; omega⟩
    · simp only [List.mem_append, Option.mem_toList, not_or]
      refine ⟨fun e => by have := hil4 _ e; omega, fun hm => ?_⟩
      have := hla3 _ hm
      have := hF34.size
      omega
    · intro x hx y hy e
      subst e
      have h1 := hq4' x (by simpa using hx)
      have h2 := hla3 x hy
      omega
  · intro b hb
    simp only [List.mem_cons, List.mem_append, Option.mem_toList] at hb
    have := H5.out.2.2.2.size
    rcases hb with rfl | rfl | hb | hb
    · omega
    · omega
    · have := hq4' b hb; omega
    · exact hl3' b hb
end Go.Proofs.YtgmnemndjjmgkaaGreat

namespace Go.Proofs.YtgmnemndjjmgkaaGreat
open Go.RowKit

section
variable {P : Program} {ops : Array Oper} {md : Region.Mode} (G : Nat → Sem Go.Next → Value → Prop)

/-- Operation number i comes up in the state a: G says what it yields. -/
def gOp (ops : Array Oper) (i : Nat) (K : Act → Prop) (a : Act) : Prop :=
  match ops[i]? with
  | none => K a
  | some o => if Region.wanted o (yielded ops a.tmps) then ∃ v, G i (execOp a.eval o) v ∧ K (a.put o.dst v) else K (a.put o.dst undef)

/-- The walk in the order of the text. -/
def gWalk (ops : Array Oper) (Q : Act → Prop) : Nat → List Oper → Act → Prop
  | _, [], a => Q a
  | k, o :: rest, a => if Region.wanted o (yielded ops a.tmps) then ∃ v, G k (execOp a.eval o) v ∧ gWalk ops Q (k + 1) rest (a.put o.dst v) else gWalk ops Q (k + 1) rest (a.put o.dst undef)

/-- Whatever order is picked from here on. -/
def gAny (md : Region.Mode) (ops : Array Oper) (Q : Act → Prop) : Nat → Array Bool → Act → Prop
  | 0, listed, a => Region.ready md ops listed = [] ∧ Q a
  | fuel + 1, listed, a =>
    (Region.ready md ops listed = [] → Q a) ∧ ∀ i ∈ Region.ready md ops listed, gOp G ops i (gAny md ops Q fuel (listed.setIfInBounds i true)) a

variable {G}

def gYields (G : Nat → Sem Go.Next → Value → Prop) (ops : Array Oper) (i : Nat) (o : Oper) (v : Value) (a : Act) : Prop :=
  (Region.wanted o (yielded ops a.tmps) = true ∧ G i (execOp a.eval o) v) ∨ (Region.wanted o (yielded ops a.tmps) = false ∧ v = undef)

theorem gYields.op {i : Nat} {o : Oper} {v : Value} {a : Act} (hi : ops[i]? = some o) (hy : gYields G ops i o v a) {K : Act → Prop} (h : K (a.put o.dst v)) : gOp G ops i K a := by
  unfold gOp
  simp only [hi]
  rcases hy with ⟨hw, hv⟩ | ⟨hw, rfl⟩
  · rw [if_pos hw]; exact ⟨v, hv, h⟩
  · rw [if_neg (by simp [hw])]; exact h

theorem gYields.same {i : Nat} {o : Oper} {v : Value} {a a' : Act} (hy : gYields G ops i o v a) (he : execOp a'.eval o = execOp a.eval o)
    (hw : Region.wanted o (yielded ops a'.tmps) = Region.wanted o (yielded ops a.tmps)) : gYields G ops i o v a' := by
  unfold gYields at *; rw [he, hw]; exact hy

theorem gOp_mono {i : Nat} {a : Act} {K K' : Act → Prop} (h : ∀ a, K a → K' a) (hh : gOp G ops i K a) : gOp G ops i K' a := by
  unfold gOp at *
  cases ho : ops[i]? with
  | none => simp only [ho] at hh ⊢; exact h _ hh
  | some o =>
    simp only [ho] at hh ⊢
    by_cases hw : Region.wanted o (yielded ops a.tmps) = true
    · rw [if_pos hw] at *; obtain ⟨v, h1, h2⟩ := hh; exact ⟨v, h1, h _ h2⟩
    · rw [if_neg hw] at *; exact h _ hh

theorem gYields_of_op {i : Nat} {o : Oper} {a : Act} {K : Act → Prop} (hi : ops[i]? = some o) (h : gOp G ops i K a) : ∃ v, gYields G ops i o v a ∧ K (a.put o.dst v) := by
  unfold gOp at h
  simp only [hi] at h
  by_cases hw : Region.wanted o (yielded ops a.tmps) = true
  · rw [if_pos hw] at h
    obtain ⟨v, h1, h2⟩ := h
    exact ⟨v, .inl ⟨hw, h1⟩, h2⟩
  · rw [if_neg hw] at h
    exact ⟨undef, .inr ⟨by simpa using hw, rfl⟩, h⟩

theorem gOp_put {i j : Nat} {oi oj : Oper} {v : Value} (hj : ops[j]? = some oj) (hap : oi.apart ops oj = true)
    (hsi : ∀ cs b, oi.op ≠ .select cs b) (hsj : ∀ cs b, oj.op ≠ .select cs b) {K : Act → Prop} {a : Act}
    (hy : gYields G ops i oi v a) (h : gOp G ops j K (a.put oi.dst v)) :
    gOp G ops j (fun a' => gYields G ops i oi v a' ∧ K (a'.put oi.dst v)) a := by
  obtain ⟨h1, h2, h3⟩ := Oper.apart_spec hap
  have keep : ∀ (a : Act), gYields G ops i oi v a → ∀ u, gYields G ops i oi v (a.put oj.dst u) := fun a hy u =>
    hy.same (execOp_put oi hsi a oj.dst u h3) (wanted_put oi a oj.dst u h3)
  unfold gOp at *
  simp only [hj] at *
  rw [wanted_put oj a oi.dst v h1] at h
  by_cases hw : Region.wanted oj (yielded ops a.tmps) = true
  · rw [if_pos hw] at *
    obtain ⟨u, hu, hn⟩ := h
    rw [execOp_put oj hsj a oi.dst v h1] at hu
    exact ⟨u, hu, keep a hy u, by rw [← Act.put_comm a v u h2]; exact hn⟩
  · rw [if_neg hw] at *
    exact ⟨keep a hy _, by rw [← Act.put_comm a v undef h2]; exact h⟩

theorem gAny_first {Q : Act → Prop} {i : Nat} {oi : Oper} {v : Value} (hi : ops[i]? = some oi) (hsel : ∀ (j : Nat) (o : Oper) cs b, ops[j]? = some o → o.op ≠ .select cs b) :
    ∀ (fuel : Nat) (listed : Array Bool) (a : Act),
      (∀ j oj, ops[j]? = some oj → j ≠ i → listed.getD j true = false → (∀ e ∈ oj.after, Region.binds md e = true → e.on ≠ i) → oi.apart ops oj = true) →
      i ∈ Region.ready md ops listed → gYields G ops i oi v a →
      gAny G md ops Q fuel (listed.setIfInBounds i true) (a.put oi.dst v) → gAny G md ops Q (fuel + 1) listed a := by
  intro fuel
  induction fuel with
  | zero =>
    intro listed a _ hr hy H
    refine ⟨fun h => (by rw [h] at hr; cases hr), fun j hj => ?_⟩
    by_cases hji : j = i
    · subst hji; exact hy.op hi H
    · have := ready_mono hj hji
      rw [H.1] at this
      cases this
  | succ fuel ih =>
    intro listed a hfree hr hy H
    refine ⟨fun h => (by rw [h] at hr; cases hr), fun j hj => ?_⟩
    by_cases hji : j = i
    · subst hji; exact hy.op hi H
    · have h1 := H.2 j (ready_mono hj hji)
      obtain ⟨hjun, oj, hoj, hall⟩ := mem_ready.1 hj
      have hnot : ∀ e ∈ oj.after, Region.binds md e = true → e.on ≠ i := fun e he hb heq => by
        have h1 := hall e he hb
        have h0 := (mem_ready.1 hr).1
        rw [heq] at h1
        rcases Nat.lt_or_ge i listed.size with h' | h'
        · simp [h'] at h0 h1; rw [h0] at h1; cases h1
        · simp [Array.getElem?_eq_none h'] at h1
      have h2 := gOp_put hoj (hfree j oj hoj hji hjun hnot) (fun cs b => hsel i oi cs b hi) (fun cs b => hsel j oj cs b hoj) hy h1
      have hfree' : ∀ k ok, ops[k]? = some ok → k ≠ i → (listed.setIfInBounds j true).getD k true = false →
          (∀ e ∈ ok.after, Region.binds md e = true → e.on ≠ i) → oi.apart ops ok = true := fun k ok hk hki hun hno => by
        refine hfree k ok hk hki ?_ hno
        by_cases hjk : j = k
        · subst hjk; exact hjun
        · rw [getD_set_ne true hjk] at hun; exact hun
      refine gOp_mono (fun a' h3 => ih (listed.setIfInBounds j true) a' hfree' (ready_mono hr (Ne.symm hji)) h3.1 ?_) h2
      rw [Array.setIfInBounds_comm _ _ hji]
      exact h3.2

theorem gAny_lex {Q : Act → Prop} (hs : Region.noSelect ops = true) : ∀ (l : List Oper) (k : Nat) (listed : Array Bool) (a : Act), (∀ j, l[j]? = ops[k + j]?) →
    Region.lexFrom md ops l.length k listed = true → gWalk G ops Q k l a → gAny G md ops Q l.length listed a
  | [], _, _, _, _, hB, h => ⟨by simpa [Region.lexFrom] using hB, h⟩
  | o :: l, k, listed, a, hl, hB, h => by
    have h0 : ops[k]? = some o := by simpa using (hl 0).symm
    simp only [List.length_cons, Region.lexFrom, Bool.and_eq_true] at hB
    obtain ⟨⟨hr, hf⟩, hB'⟩ := hB
    have hst : gOp G ops k (gWalk G ops Q (k + 1) l) a := by unfold gOp; simp only [h0]; exact h
    obtain ⟨v, hy, hK⟩ := gYields_of_op h0 hst
    exact gAny_first h0 (Region.noSelect_spec hs) l.length listed a (Region.free_spec h0 hf) (by simpa using hr) hy
      (gAny_lex hs l (k + 1) _ _ (fun j => by have := hl (j + 1); simpa [Nat.add_assoc, Nat.add_comm 1 j] using this) hB' hK)
end

/-- What the operation that changes the world must come to. -/
def writeUpon (P : Program) (C1 : World → Prop) (v : Value) : Result Go.Next → Prop
  | .ok (.value u) w' => u = v ∧ C1 w'
  | .ok .skip w' => v = undef ∧ C1 w'
  | .ok (.enter f args) w' => Calls P f args w' (fun e w'' => e = .returned v ∧ C1 w'')
  | _ => False

/-- An operation that neither reads nor changes the world. -/
def pureUpon (w : World) (v : Value) : Result Go.Next → Prop
  | .ok (.value u) w' => w' = w ∧ u = v
  | .ok .skip w' => w' = w ∧ v = undef
  | _ => False

/-- The operations ahead of number c read; c leads from the class C0 to the class C1; those behind it look at no world. -/
def oneG (P : Program) (c : Nat) (C0 C1 : World → Prop) (i : Nat) (s : Sem Go.Next) (v : Value) : Prop :=
  if i < c then ∀ w, C0 w → Oper.quietUpon P C0 w v (s.run P w) else if i = c then ∀ w, C0 w → writeUpon P C1 v (s.run P w) else ∀ w, pureUpon w v (s.run P w)

theorem quiet_upon {P : Program} {o : Oper} {a : Act} {v : Value} {C : World → Prop} {w : World} {K' : Act → World → Prop} {Q' : Exit → Act → World → Prop} (hw : C w) (h : ∀ w', C w' → K' (a.put o.dst v) w')
    {r : Result Go.Next} (h3 : Oper.quietUpon P C w v r) : o.upon P a K' Q' r := by
  cases r with
  | halt x w' => exact h3.elim
  | ok x w' =>
    cases x with
    | value u => obtain ⟨rfl, rfl⟩ := h3; exact h _ hw
    | skip => obtain ⟨rfl, rfl⟩ := h3; exact h _ hw
    | enter f args =>
      obtain ⟨rfl, hc⟩ := h3
      exact hc.mono fun e w'' ⟨he, hw''⟩ => by subst he; exact h _ hw''
    | _ => exact h3.elim
theorem write_upon {P : Program} {o : Oper} {a : Act} {v : Value} {C : World → Prop} {K' : Act → World → Prop} {Q' : Exit → Act → World → Prop} (h : ∀ w', C w' → K' (a.put o.dst v) w')
    {r : Result Go.Next} (h3 : writeUpon P C v r) : o.upon P a K' Q' r := by
  cases r with
  | halt x w' => exact h3.elim
  | ok x w' =>
    cases x with
    | value u => obtain ⟨rfl, hc⟩ := h3; exact h _ hc
    | skip => obtain ⟨rfl, hc⟩ := h3; exact h _ hc
    | enter f args => exact Calls.mono h3 fun e w'' ⟨he, hw''⟩ => by subst he; exact h _ hw''
    | _ => exact h3.elim

theorem pure_upon {P : Program} {o : Oper} {a : Act} {v : Value} {w : World} {K' : Act → World → Prop} {Q' : Exit → Act → World → Prop} (h : K' (a.put o.dst v) w)
    {r : Result Go.Next} (h3 : pureUpon w v r) : o.upon P a K' Q' r := by
  cases r with
  | halt x w' => exact h3.elim
  | ok x w' =>
    cases x with
    | value u => obtain ⟨rfl, rfl⟩ := h3; exact h
    | skip => obtain ⟨rfl, rfl⟩ := h3; exact h
    | _ => exact h3.elim

section
variable {P : Program} {ops : Array Oper} {md : Region.Mode} {C0 C1 : World → Prop} {c : Nat}

theorem rep_false (m j : Nat) : (Array.replicate m false).getD j false = false := by
  by_cases h : j < m <;> simp [h]

/-- Whatever the marked operations wait for is marked too. -/
def marks (md : Region.Mode) (ops : Array Oper) : Nat → Array Bool → Array Bool
  | 0, S => S
  | j + 1, S => marks md ops j (if S.getD j false then (match ops[j]? with | some o => o.after.toList.foldl (fun S e => if Region.binds md e then S.setIfInBounds e.on true else S) S | none => S) else S)
def allBefore (md : Region.Mode) (ops : Array Oper) (c : Nat) : Bool := (List.range c).all fun i => (marks md ops (c + 1) ((Array.replicate ops.size false).setIfInBounds c true)).getD i false

def Shut (md : Region.Mode) (ops : Array Oper) (L : Array Bool) : Prop := ∀ j oj, ops[j]? = some oj → L.getD j false = true → ∀ e ∈ oj.after, Region.binds md e = true → L.getD e.on false = true

theorem marks_sub {L : Array Bool} (hL : Shut md ops L) : ∀ (j : Nat) (S : Array Bool), (∀ i, S.getD i false = true → L.getD i false = true) → ∀ i, (marks md ops j S).getD i false = true → L.getD i false = true
  | 0, S, h => h
  | j + 1, S, h => by
    unfold marks
    refine marks_sub hL j _ ?_
    by_cases hj : S.getD j false = true
    · rw [if_pos hj]
      cases ho : ops[j]? with
      | none => exact h
      | some o =>
        have hcl := hL j o ho (h j hj)
        have key : ∀ (es : List Edge) (T : Array Bool), (∀ e ∈ es, e ∈ o.after.toList) → (∀ i, T.getD i false = true → L.getD i false = true) →
            ∀ i, (es.foldl (fun S e => if Region.binds md e then S.setIfInBounds e.on true else S) T).getD i false = true → L.getD i false = true := by
          intro es
          induction es with
          | nil => intro T _ hT; exact hT
          | cons e es ih =>
            intro T hes hT
            rw [List.foldl_cons]
            refine ih _ (fun e' he' => hes e' (List.mem_cons_of_mem _ he')) ?_
            by_cases hb : Region.binds md e = true
            · rw [if_pos hb]
              intro i hi
              by_cases hei : e.on = i
              · rw [← hei]; exact hcl e (by simpa using hes e (by simp)) hb
              · rw [getD_set_ne false hei] at hi; exact hT i hi
            · rw [if_neg hb]; exact hT
        exact key _ S (fun e he => he) h
    · rw [if_neg hj]; exact h

theorem before_listed {L : Array Bool} (hL : Shut md ops L) (hB : allBefore md ops c = true) (hc : L.getD c false = true) : ∀ i, i < c → L.getD i false = true := by
  intro i hi
  have h1 := List.all_eq_true.1 hB i (by simpa using hi)
  refine marks_sub hL (c + 1) _ ?_ i h1
  intro j hj
  by_cases e : c = j
  · rw [← e]; exact hc
  · rw [getD_set_ne false e, rep_false] at hj
    cases hj

theorem Shut.set {L : Array Bool} {i : Nat} (h : Shut md ops L) (hi : i ∈ Region.ready md ops L) : Shut md ops (L.setIfInBounds i true) := by
  obtain ⟨_, oi, hoi, hall⟩ := mem_ready.1 hi
  intro j oj hj hl e he hb
  by_cases hij : i = j
  · subst hij
    have : oj = oi := Option.some.inj (hj.symm.trans hoi)
    subst this
    exact getD_set_true (hall e he hb)
  · rw [getD_set_ne false hij] at hl
    exact getD_set_true (h j oj hj hl e he hb)

def phase (c : Nat) (C0 C1 : World → Prop) (listed : Array Bool) (w : World) : Prop := if listed.getD c false = true then C1 w else C0 w

def edgesBack (md : Region.Mode) (ops : Array Oper) : Bool := (List.range ops.size).all fun j => match ops[j]? with
  | some o => o.after.all fun e => !Region.binds md e || decide (e.on < j)
  | none => true

theorem ready_nil {listed : Array Bool} (hs : listed.size = ops.size) (hb : edgesBack md ops = true) (h : Region.ready md ops listed = []) : ∀ j, j < ops.size → listed.getD j false = true := by
  intro j
  induction j using Nat.strongRecOn with
  | _ j ih =>
    intro hj
    apply Classical.byContradiction
    intro hno
    have hun : listed.getD j true = false := by
      simp [hs, hj] at hno ⊢; exact hno
    obtain ⟨o, ho⟩ : ∃ o, ops[j]? = some o := ⟨_, Array.getElem?_eq_getElem hj⟩
    have hin : j ∈ Region.ready md ops listed := by
      refine mem_ready.2 ⟨hun, o, ho, fun e he hbe => ?_⟩
      have h1 := List.all_eq_true.1 hb j (by simpa using hj)
      simp only [ho] at h1
      have h2 := Array.all_eq_true'.1 h1 e he
      simp [hbe] at h2
      exact ih e.on h2 (by omega)
    rw [h] at hin
    cases hin

/-- What stands behind c waits for c, or looks at no world: either way it may come up at any time. -/
theorem any_of_gAny (hc : c < ops.size) (hb : edgesBack md ops = true) (hbf : allBefore md ops c = true) (hu : ∀ o, ops[c]? = some o → o.guard = none) {Q : Act → Prop} {Q' : Exit → Act → World → Prop} (hQ : ∀ a w, C1 w → Q a → Q' .normal a w) : ∀ (fuel : Nat) (listed : Array Bool) (a : Act) (w : World), listed.size = ops.size →
    Shut md ops listed → phase c C0 C1 listed w → gAny (oneG P c C0 C1) md ops Q fuel listed a → wpAny P md ops Q' fuel listed a w
  | 0, listed, a, w, hs, _, hp, h => ⟨h.1, hQ _ _ (by unfold phase at hp; rw [if_pos (ready_nil hs hb h.1 c hc)] at hp; exact hp) h.2⟩
  | fuel + 1, listed, a, w, hs, hsh, hp, h => by
    refine ⟨fun h0 => hQ _ _ (by unfold phase at hp; rw [if_pos (ready_nil hs hb h0 c hc)] at hp; exact hp) (h.1 h0), fun i hi => ?_⟩
    have hg := h.2 i hi
    obtain ⟨hun, oi, hoi, _⟩ := mem_ready.1 hi
    have hil : i < ops.size := (Array.getElem?_eq_some_iff.1 hoi).1
    have hs' : (listed.setIfInBounds i true).size = ops.size := by simp [hs]
    have hl0 : listed.getD i false = false := by
      simp [hs, hil] at hun ⊢; exact hun
    have next : ∀ a' w', phase c C0 C1 (listed.setIfInBounds i true) w' → gAny (oneG P c C0 C1) md ops Q fuel (listed.setIfInBounds i true) a' → wpAny P md ops Q' fuel (listed.setIfInBounds i true) a' w' :=
      fun a' w' hp' hg' => any_of_gAny hc hb hbf hu hQ fuel _ a' w' hs' (hsh.set hi) hp' hg'
    unfold gOp at hg
    unfold wpOp
    simp only [hoi] at hg ⊢
    by_cases hic : i = c
    · subst hic
      have hl1 : (listed.setIfInBounds i true).getD i false = true := by simp [hs, hil]
      unfold phase at hp
      rw [if_neg (by simp [hl0])] at hp
      have hw : Region.wanted oi (yielded ops a.tmps) = true := by simp [Region.wanted, hu oi hoi]
      rw [if_pos hw] at hg ⊢
      obtain ⟨v, hv, hk⟩ := hg
      unfold oneG at hv
      rw [if_neg (Nat.lt_irrefl _), if_pos rfl] at hv
      exact .inl (write_upon (fun w' hc' => next _ w' (by unfold phase; rw [if_pos hl1]; exact hc') hk) (hv w hp))
    · have hlc : (listed.setIfInBounds i true).getD c false = listed.getD c false := getD_set_ne false hic
      by_cases hw : Region.wanted oi (yielded ops a.tmps) = true
      · rw [if_pos hw] at hg ⊢
        obtain ⟨v, hv, hk⟩ := hg
        unfold oneG at hv
        left
        by_cases hlt : i < c
        · have hcl : ¬ listed.getD c false = true := fun hcl => by rw [before_listed hsh hbf hcl i hlt] at hl0; cases hl0
          rw [if_pos hlt] at hv
          unfold phase at hp
          rw [if_neg hcl] at hp
          exact quiet_upon hp (fun w' hc' => next _ w' (by unfold phase; rw [hlc, if_neg hcl]; exact hc') hk) (hv w hp)
        · rw [if_neg hlt, if_neg hic] at hv
          exact pure_upon (next _ w (by unfold phase at hp ⊢; rw [hlc]; exact hp) hk) (hv w)
      · rw [if_neg hw] at hg ⊢
        exact next _ w (by unfold phase at hp ⊢; rw [hlc]; exact hp) hg

/-- The law. C1 is what the one operation (number c) that changes the world leads to; before it the world is w after some draws. -/
theorem region_one (c : Nat) {id : Nat} {Q : Exit → Act → World → Prop} {a : Act} {w : World} {l : List Oper} (C1 : World → Prop) (hm : P.follows .mixedOrders = true) (hB : Region.lexB .any l.toArray = true)
    (hk : ((edgesBack .any l.toArray && allBefore .any l.toArray c) && match l[c]? with | some o => o.guard.isNone | none => false) = true)
    (h : gWalk (oneG P c (fun w' => ∃ n, w' = w.drewN n) C1) l.toArray (fun a' => ∀ w', C1 w' → Q .normal a' w') 0 l a) : (Code.region id l.toArray true).wp P Q a w := by
  simp only [Region.lexB, Bool.and_eq_true] at hB
  rw [Bool.and_eq_true, Bool.and_eq_true] at hk
  obtain ⟨⟨hk1, hk3⟩, hk2⟩ := hk
  have hcl : c < l.length := by
    cases ho : l[c]? with
    | none => rw [ho] at hk2; cases hk2
    | some o => exact (List.getElem?_eq_some_iff.1 ho).1
  have hg : ∀ o, l.toArray[c]? = some o → o.guard = none := by
    intro o ho
    simp only [List.getElem?_toArray] at ho
    rw [ho] at hk2
    simpa using hk2
  refine wp_region_any hm (any_of_gAny (Q := fun a' => ∀ w', C1 w' → Q .normal a' w') (C0 := fun w' => ∃ n, w' = w.drewN n) (C1 := C1) (c := c) (by simpa using hcl) hk1 hk3 hg (fun _ w' hw' h => h w' hw') _ _ _ _ (by simp) ?_ ?_ ?_)
  · intro j oj _ hl; rw [rep_false] at hl; cases hl
  · unfold phase
    rw [if_neg (by simp [hcl])]
    exact ⟨1, rfl⟩
  · have := gAny_lex (G := oneG P c (fun w' => ∃ n, w' = w.drewN n) C1) (md := .any) hB.1 l 0 (Array.replicate l.toArray.size false) a (by simp) (by simpa using hB.2) h
    simpa using this

/-- One step of the walk: an operation ahead of number c. -/
theorem gWalk_pre {C0 C1 : World → Prop} {Q : Act → Prop} {k : Nat} {o : Oper} {rest : List Oper} {a : Act} (hk : k < c)
    (h : ∀ K : Act → Prop, (∀ a, gWalk (oneG P c C0 C1) ops Q (k + 1) rest a → K a) → if Region.wanted o (yielded ops a.tmps) then o.quiet P a C0 K else K (a.put o.dst undef)) : gWalk (oneG P c C0 C1) ops Q k (o :: rest) a := by
  have h := h _ (fun _ h => h)
  unfold gWalk
  by_cases hw : Region.wanted o (yielded ops a.tmps) = true
  · rw [if_pos hw] at *
    obtain ⟨v, h1, h2⟩ := h
    refine ⟨v, ?_, h2⟩
    unfold oneG; rw [if_pos hk]; exact h1
  · rw [if_neg hw] at *; exact h
/-- One step of the walk: the operation that changes the world. -/
theorem gWalk_write {C0 C1 : World → Prop} {Q : Act → Prop} {o : Oper} {rest : List Oper} {a : Act} (hg : o.guard = none) (v : Value)
    (h0 : ∀ w, C0 w → writeUpon P C1 v ((execOp a.eval o).run P w)) (h : gWalk (oneG P c C0 C1) ops Q (c + 1) rest (a.put o.dst v)) : gWalk (oneG P c C0 C1) ops Q c (o :: rest) a := by
  unfold gWalk
  rw [if_pos (by simp [Region.wanted, hg])]
  refine ⟨v, ?_, h⟩
  unfold oneG
  rw [if_neg (Nat.lt_irrefl _), if_pos rfl]
  exact h0
def Oper.pure_ (P : Program) (o : Oper) (a : Act) (next : Act → Prop) : Prop := ∃ v, (∀ w, pureUpon w v ((execOp a.eval o).run P w)) ∧ next (a.put o.dst v)
/-- One step of the walk: an operation behind number c. -/
theorem gWalk_post {C0 C1 : World → Prop} {Q : Act → Prop} {k : Nat} {o : Oper} {rest : List Oper} {a : Act} (hk : c < k)
    (h : ∀ K : Act → Prop, (∀ a, gWalk (oneG P c C0 C1) ops Q (k + 1) rest a → K a) → if Region.wanted o (yielded ops a.tmps) then Oper.pure_ P o a K else K (a.put o.dst undef)) : gWalk (oneG P c C0 C1) ops Q k (o :: rest) a := by
  have h := h _ (fun _ h => h)
  unfold gWalk
  by_cases hw : Region.wanted o (yielded ops a.tmps) = true
  · rw [if_pos hw] at *
    obtain ⟨v, h1, h2⟩ := h
    refine ⟨v, ?_, h2⟩
    unfold oneG; rw [if_neg (by omega), if_neg (by omega)]; exact h1
  · rw [if_neg hw] at *; exact h
theorem gWalk_nil {C0 C1 : World → Prop} {Q : Act → Prop} {k : Nat} {a : Act} (h : Q a) : gWalk (oneG P c C0 C1) ops Q k [] a := h

attribute [go_sem] Oper.pure_ pureUpon writeUpon

end
end Go.Proofs.YtgmnemndjjmgkaaGreat
