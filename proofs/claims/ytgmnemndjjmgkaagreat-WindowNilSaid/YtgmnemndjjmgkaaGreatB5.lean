/- slices.Sort at uint64: choosePivotOrdered. -/
import Derived.Deep.WholeRow
import Derived.StillTailTactics
import Derived.Test.YtgmnemndjjmgkaaGreatB4
import Derived.Sort.WalkA
import Derived.Sort.Walk13a
import Derived.CellFam
import Derived.BigGuard
import Derived.BigCall
import Derived.Deep.Draws
import Derived.Test.YtgmnemndjjmgkaaGreatB1
import Derived.Sort.WalkB3
import Derived.Sort.WalkB12
import Derived.Sort.WalkD1
import Derived.Sort.LotD4
set_option linter.unusedSimpArgs false
set_option linter.unusedVariables false
/- arena: Copy. -/
namespace Go.Proofs.YtgmnemndjjmgkaaGreat
open Go.RowKit
set_option maxRecDepth 10000
set_option maxHeartbeats 1600000
theorem arena_copy {w : World} {pa : Nat} {A : Ar} {l : List Nat} (h : ArenaAt w pa A l) :
    Calls Tryz.prog 101 #[ptr pa] w fun e w' => ∃ pa', e = .returned (ptr pa') ∧ ∃ l', ArenaAt w' pa' A l' ∧ Fr [] w w' ∧ ∀ b ∈ l', w.heap.size ≤ b := by
 have hok := h.ok
 have hs := hok.hs
 have hb := hok.hb
 have HA := Lib.hid h
 obtain ⟨v0, bs, st, af, h1, h2, h3, rfl, hnd, hl, _, hst, hch⟩ := h
 have c0 := h1.cell 0
 have c1 := h1.cell 1
 have c2 := h1.cell 2
 have c3 := h1.cell 3
 have c4 := h1.cell 4
 have c5 := h1.cell 5
 simp only [List.getElem?_cons_zero, List.getElem?_cons_succ] at c0 c1 c2 c3 c4 c5
 obtain ⟨a2, cp2, rfl⟩ := ownsRow_slice h2
 have hpa := h1.lt
 have H1 := Lib.hid (And.intro h1 (And.intro h2 h3)); clear h1 h2 h3
 have hbl : bs.length ≤ 1024 := by omega
 go_enter Tryz.func101, Tryz.ntmps101
 go_wp2_with (go_at_call 139; refine (arena_valid pa _ c0).mono ?_; rintro e w' ⟨rfl, rfl⟩)
 go_still_tail 16, (by kernel_rfl)
 change wpList _ _ _ _ _ w.drew
 have hF0 : Fr [] w (w.alloc (.cells #[.pointer (some ⟨w.heap.size, 0, none⟩), .slice none 0 0, .int .i64 A.slots, .int .i64 A.begun, .int .i64 A.used, .int .i64 (lastOf A.free)] 198)).drew := ((Fr.refl [] w).alloc _).drew
 have hb0 := (Blk.new w [ptr w.heap.size, .slice none 0 0, .int .i64 A.slots, .int .i64 A.begun, .int .i64 A.used, .int .i64 (lastOf A.free)] 198).drew
 have d1 : (w.alloc (.cells #[.pointer (some ⟨w.heap.size, 0, none⟩), .slice none 0 0, .int .i64 A.slots, .int .i64 A.begun, .int .i64 A.used, .int .i64 (lastOf A.free)] 198)).cell? ⟨pa, 1, none⟩ = some (.slice a2 bs.length cp2) := ((Fr.refl [] w).alloc _).cell c1 (by simp)
 go_wp2
 have hsz1 : (w.alloc (.cells #[.pointer (some ⟨w.heap.size, 0, none⟩), .slice none 0 0, .int .i64 A.slots, .int .i64 A.begun, .int .i64 A.used, .int .i64 (lastOf A.free)] 198)).drew.heap.size = w.heap.size + 1 := by simp
 have HB0 : Hid (Blk (w.alloc (.cells #[.pointer (some ⟨w.heap.size, 0, none⟩), .slice none 0 0, .int .i64 A.slots, .int .i64 A.begun, .int .i64 A.used, .int .i64 (lastOf A.free)] 198)).drew w.heap.size 198 [ptr w.heap.size, .slice none 0 0, .int .i64 A.slots, .int .i64 A.begun, .int .i64 A.used, .int .i64 (lastOf A.free)]) := Lib.hid hb0
 have HF0 := Lib.hid hF0; clear hF0 hb0
 generalize (w.alloc (.cells #[.pointer (some ⟨w.heap.size, 0, none⟩), .slice none 0 0, .int .i64 A.slots, .int .i64 A.begun, .int .i64 A.used, .int .i64 (lastOf A.free)] 198)).drew = w1 at *
 clear c0 c1 c2 c3 c4 c5 d1
 go_loopw [37] (fun si wr => ∃ (i : Nat) (v : Value) (bs' : List Nat), i ≤ bs.length ∧ si = .int .i64 i ∧ bs'.length = i ∧ Hid (Fr [] w wr) ∧ Hid (Blk wr w.heap.size 198 [ptr w.heap.size, v, .int .i64 A.slots, .int .i64 A.begun, .int .i64 A.used, .int .i64 (lastOf A.free)]) ∧
   wr.ownsRow 0 209 1 v i (bs'.map ptr) ∧ Hid (∀ q, v.ownBlock = some q → w.heap.size < q ∧ q ∉ bs') ∧ Hid (bs'.Nodup ∧ ∀ b ∈ bs', w.heap.size < b) ∧
   Hid (∀ (j b b' : Nat), bs[j]? = some b → bs'[j]? = some b' → ∃ cs, Blk w b 211 cs ∧ Blk wr b' 211 cs)) (fun si _ => bs.length - (intOf si).toNat)
 case atStart => exact ⟨0, .slice none 0 0, [], Nat.zero_le _, rfl, rfl, HF0, HB0, World.ownsRow_nil _ _ _ _, Lib.hid (fun q e => by cases e), Lib.hid ⟨List.nodup_nil, by simp⟩, Lib.hid (fun j b b' _ h => by simp at h)⟩
 case round =>
  clear HB0 HF0 hsz1
  obtain ⟨i, v, bs', hi, rfl, hbl', HF, HB, hown, HQ, HN, HC⟩ := hrel
  obtain ⟨a8, c8, rfl⟩ := ownsRow_slice hown
  have c1 := HB.out.cell 1
  have z1 := HB.out.frozen 1
  simp only [List.getElem?_cons_zero, List.getElem?_cons_succ] at c1
  by_cases hlt : i < bs.length
  {
  have hil : (i : Int) < bs.length := by omega
  obtain ⟨g, cap, e, _, hg, hcg, _⟩ := ownsRow_at H1.out.2.1 hlt
  simp only [Value.slice.injEq, true_and] at e
  obtain ⟨rfl, rfl⟩ := e
  have hbi : bs[i]? = some bs[i] := List.getElem?_eq_getElem hlt
  obtain ⟨cs, hcs, hrs⟩ := H1.out.2.2 i bs[i] hbi
  generalize bs[i] = b at *
  have hcg' : wr.cell? ⟨g, i, none⟩ = some (ptr b) := HF.out.cell (by rw [hcg]; simp [hbi]) (by simp)
  have hcsr := HF.out.blk hcs (by simp)
  have hcl := (hrs 0 (by decide)).2.2.2
  have hone : ∀ u ∈ cs, u.oneCell' = true := by {
  intro u hu
  obtain ⟨k, hk⟩ := List.mem_iff_getElem?.1 hu
  have hk2 : k < 192 := by rw [← hcl]; exact (List.getElem?_eq_some_iff.1 hk).1
  obtain ⟨r0, r1, ⟨t, r2⟩, _⟩ := hrs (k / 3) (by omega)
  rcases (show k = k / 3 * 3 ∨ k = k / 3 * 3 + 1 ∨ k = k / 3 * 3 + 2 by omega) with e | e | e
  · rw [← e, hk] at r0; cases r0; rfl
  · rw [← e, hk] at r1; cases r1; rfl
  · rw [← e, hk] at r2; cases r2; rfl
  }
  have hinfo : (Tryz.prog.info? 211).map (·.size) = some cs.toArray.size := by {
  have : (Tryz.prog.info? 211).map (·.size) = some 192 := by kernel_rfl
  rw [this]; simp [hcl]
  }
  have hz : Tryz.zeroCells211.size = cs.toArray.size := by {
  have := zero_block_len
  simp only [Array.length_toList] at this
  rw [this]; simp [hcl]
  }
  have Hone := Lib.hid hone; clear hone
  have Hcs := Lib.hid hcs; clear hcs hrs
  go_wp2
  refine wp_load_row 211 _ rfl b rfl 211 cs.toArray (0, 0) _ hcsr Tryz.underlying211 rfl hinfo ?_
  have hst := run_storeCells_new (P := Tryz.prog) wr 211 Tryz.zeroCells211 cs.toArray hinfo hz (by simpa using Hone.out)
  simp only [List.toList_toArray] at hst
  have hFa : Fr [] wr (wr.alloc (.cells cs.toArray 211)) := (Fr.refl [] wr).alloc _
  have c1' := hFa.cell c1 (by simp)
  have hbn : Blk (wr.alloc (.cells cs.toArray 211)) wr.heap.size 211 cs := Blk.new wr cs 211
  have Hbn := Lib.hid hbn; clear hbn
  have HFa := Lib.hid hFa; clear hFa
  go_wp2_with (at_builtin; refine wpList_app1 rfl _ _ 196 rfl 209 (.pointer none) 8 Tryz.underlying196 Tryz.info209 rfl (.slice a8 i c8) i _ rfl ((hown.alloc _).alloc _) (wr.heap.size + 1) (ptr wr.heap.size) rfl (cell_new1 _ _ _ _ (by simp)) rfl (by omega) (by decide) ?_; intro g' cap' w4 hown4 hgrow4 hg4; have hF4 : Fr (Value.slice a8 i c8).ownBlock.toList (wr.alloc (.cells cs.toArray 211)) w4 := ((Fr.refl _ _).alloc _).grown hgrow4 (fun q e => .inl (by simp [e])); have hB4 : Blk w4 w.heap.size 198 [ptr w.heap.size, .slice a8 i c8, .int .i64 A.slots, .int .i64 A.begun, .int .i64 A.used, .int .i64 (lastOf A.free)] := hF4.blk (HFa.out.blk HB.out (by simp)) (fun hm => by have := (HQ.out w.heap.size (by simpa using hm)).1; omega); have c4 := hB4.cell 1; have z4 := hB4.frozen 1; simp only [List.getElem?_cons_zero, List.getElem?_cons_succ] at c4)
  have hlow : ∀ b' ∈ bs', b' < wr.heap.size := by {
  intro b' hb'
  obtain ⟨j, hj, e⟩ := List.mem_iff_getElem.1 hb'
  obtain ⟨_, _, h2⟩ := HC.out j _ b' (List.getElem?_eq_getElem (show j < bs.length by omega)) (by rw [List.getElem?_eq_getElem hj, e])
  exact h2.lt
  }
  have hhd := HB.out.lt
  have hol : ∀ q, (Value.slice a8 i c8).ownBlock = some q → q < wr.heap.size := fun q hq => (hown.lt q hq).2
  simp only [World.size_alloc] at hg4
  have hgn : g' ≠ w.heap.size := by {
  rintro rfl
  rcases hg4 with e | e
  · have := (HQ.out _ e).1; omega
  · omega
  }
  go_roundw
  case rel =>
   refine ⟨i + 1, .slice (some ⟨g', 0, none⟩) (i + 1) cap', bs' ++ [wr.heap.size], by omega, by go_num, by simp; omega, Lib.hid ?_, Lib.hid (hB4.set 1 _), ?_, Lib.hid (fun q e => ?_), Lib.hid ⟨?_, fun x hx => ?_⟩, Lib.hid (fun j x y hj hy => ?_)⟩
   · exact ((HF.out.trans' HFa.out).trans hF4 (fun q hq => .inr (Nat.le_of_lt (HQ.out q (by simpa using hq)).1))).setCell _ _ (.inr (Nat.le_refl _))
   {
   have e : (bs' ++ [wr.heap.size]).map ptr = bs'.map ptr ++ [ptr wr.heap.size] := by simp
   rw [e]
   exact ownsRow_other hown4 _ _ (by simpa [Value.ownBlock] using hgn)
   }
   {
   simp only [Value.ownBlock, Option.some.injEq] at e
   subst e
   simp only [List.mem_append, List.mem_singleton, not_or]
   rcases hg4 with e | e
   {
   have h1 := hol _ e
   exact ⟨(HQ.out _ e).1, (HQ.out _ e).2, by omega⟩
   }
   {
   refine ⟨by omega, fun hm => ?_, by omega⟩
   have := hlow _ hm
   omega
   }
   }
   {
   rw [List.nodup_append]
   refine ⟨HN.out.1, by simp, fun x hx y hy e => ?_⟩
   simp at hy
   have := hlow x hx
   omega
   }
   {
   simp only [List.mem_append, List.mem_singleton] at hx
   rcases hx with hx | rfl
   · exact HN.out.2 x hx
   · omega
   }
   {
   by_cases hji : j < i
   {
   rw [List.getElem?_append_left (by omega)] at hy
   obtain ⟨cs', k1, k2⟩ := HC.out j x y hj hy
   have hym := List.mem_of_getElem? hy
   refine ⟨cs', k1, (hF4.blk (HFa.out.blk k2 (by simp)) (fun hm => (HQ.out y (by simpa using hm)).2 hym)).other _ _ ?_⟩
   have := HN.out.2 y hym
   simp; omega
   }
   {
   have hjl : j < (bs' ++ [wr.heap.size]).length := (List.getElem?_eq_some_iff.1 hy).1
   simp at hjl
   obtain rfl : j = i := by omega
   rw [List.getElem?_append_right (by omega)] at hy
   simp [hbl'] at hy
   subst hy
   have : x = b := by rw [hbi] at hj; simpa using hj.symm
   subst this
   refine ⟨cs, Hcs.out, (hF4.blk Hbn.out (fun hm => ?_)).other _ _ ?_⟩
   {
   have := hol wr.heap.size (by simpa using hm)
   omega
   }
   · simp; omega
   }
   }
  case measure => simp [intOf]; omega
  }
  {
  obtain rfl : i = bs.length := by omega
  have Hown := Lib.hid hown; clear hown
  go_wp2
  go_ret
  refine ⟨w.heap.size, rfl, w.heap.size :: ((Value.slice a8 bs.length c8).ownBlock.toList ++ bs'), ⟨.slice a8 bs.length c8, bs', st, af, HB.out, by rw [hbl']; exact Hown.out, ?_, rfl, ?_, by rw [hbl', hl], hok, hst, hch⟩, HF.out, ?_⟩
  {
  intro j b' hj
  have hjl : j < bs'.length := (List.getElem?_eq_some_iff.1 hj).1
  have hbj : bs[j]? = some bs[j] := List.getElem?_eq_getElem (by omega)
  obtain ⟨cs, k1, k2⟩ := HC.out j _ b' hbj hj
  obtain ⟨cs0, k3, k4⟩ := H1.out.2.2 j _ hbj
  obtain rfl := k1.eq k3
  exact ⟨cs, k2, k4⟩
  }
  {
  rw [List.nodup_cons, List.nodup_append]
  refine ⟨?_, by cases (Value.slice a8 bs.length c8).ownBlock <;> simp, HN.out.1, ?_⟩
  {
  simp only [List.mem_append, Option.mem_toList, not_or]
  refine ⟨fun e => ?_, fun hm => ?_⟩
  · have := (HQ.out _ e).1; omega
  · have := HN.out.2 _ hm; omega
  }
  {
  intro x hx y hy e
  subst e
  exact (HQ.out x (by simpa using hx)).2 hy
  }
  }
  {
  intro x hx
  simp only [List.mem_cons, List.mem_append, Option.mem_toList] at hx
  rcases hx with rfl | hx | hx
  · exact Nat.le_refl _
  · exact Nat.le_of_lt (HQ.out x hx).1
  · exact Nat.le_of_lt (HN.out.2 x hx)
  }
  }
end Go.Proofs.YtgmnemndjjmgkaaGreat

/- slices.Sort at uint64: what the walks share; cmp.Less; insertionSortOrdered. -/
namespace Go.Proofs.YtgmnemndjjmgkaaGreat
open Go.RowKit Go.Sort
set_option maxRecDepth 10000
set_option maxHeartbeats 800000
def encU (d : Array Int) : List Value := d.toList.map (Value.int .u64)
theorem encU_at {d : Array Int} {t : Nat} (ht : t < d.size) : (encU d)[t]? = some (.int .u64 d[t]!) := by
 simp [encU, ht]
theorem encU_swp {d : Array Int} {i j : Nat} (hi : i < d.size) (hj : j < d.size) : ((encU d).set i (.int .u64 d[j]!)).set j (.int .u64 d[i]!) = encU (swp d i j) := by
 simp only [encU, swp, Array.toList_setIfInBounds, List.map_set]
structure SR (w wr : World) (blk off : Nat) (d : Array Int) : Prop where
  off0 : off = 0
  row : ∃ rest, Blk wr blk 26 (encU d ++ rest) ∧ ∃ l0, Blk w blk 26 l0 ∧ l0.length = d.size + rest.length
  fr : Fr [blk] w wr
section
variable {w wr : World} {blk off : Nat} {d : Array Int}
theorem encU_len (d : Array Int) : (encU d).length = d.size := by simp [encU]
theorem SR.cell (h : SR w wr blk off d) {t : Nat} (ht : t < d.size) : wr.cell? ⟨blk, off + t, none⟩ = some (.int .u64 d[t]!) := by
 obtain ⟨rest, h1, _⟩ := h.row
 rw [h.off0, Nat.zero_add, h1.cell, List.getElem?_append_left (by rw [encU_len]; exact ht), encU_at ht]
theorem SR.frozen (h : SR w wr blk off d) (t : Nat) : wr.frozen? ⟨blk, t, none⟩ = false := by
 obtain ⟨rest, h1, _⟩ := h.row
 exact h1.frozen t
theorem SR.drewN (h : SR w wr blk off d) (q : Nat) : SR w (wr.drewN q) blk off d := by
 obtain ⟨rest, h1, h2⟩ := h.row
 exact ⟨h.off0, ⟨rest, h1.drewN q, h2⟩, h.fr.drewN q⟩
theorem SR.alloc (h : SR w wr blk off d) (o : Obj) : SR w (wr.alloc o) blk off d := by
 obtain ⟨rest, h1, h2⟩ := h.row
 exact ⟨h.off0, ⟨rest, h1.alloc o, h2⟩, h.fr.alloc o⟩
theorem SR.other (h : SR w wr blk off d) {b i : Nat} (u : Value) (hb : w.heap.size ≤ b) (hne : b ≠ blk) : SR w (wr.setCell ⟨b, i, none⟩ u) blk off d := by
 obtain ⟨rest, h1, h2⟩ := h.row
 exact ⟨h.off0, ⟨rest, h1.other _ _ (Ne.symm hne), h2⟩, h.fr.setCell _ _ (.inr hb)⟩
theorem SR.swap (h : SR w wr blk off d) (q : Nat) {i j : Nat} (hi : i < d.size) (hj : j < d.size) :
    SR w (((wr.drewN q).setCell ⟨blk, off + i, none⟩ (.int .u64 d[j]!)).setCell ⟨blk, off + j, none⟩ (.int .u64 d[i]!)) blk off (swp d i j) := by
 obtain ⟨rest, h1, l0, h2, h3⟩ := h.row
 refine ⟨h.off0, ⟨rest, ?_, l0, h2, by rw [h3, size_swp]⟩, ((h.fr.drewN q).setCell _ _ (.inl (by simp))).setCell _ _ (.inl (by simp))⟩
 rw [h.off0, Nat.zero_add, Nat.zero_add, ← encU_swp hi hj]
 have := ((h1.drewN q).set i (.int .u64 d[j]!)).set j (.int .u64 d[i]!)
 rw [List.set_append_left _ _ (by rw [encU_len]; exact hi), List.set_append_left _ _ (by rw [List.length_set, encU_len]; exact hj)] at this
 exact this
theorem SR.lt (h : SR w wr blk off d) : blk < wr.heap.size := by
 obtain ⟨rest, h1, _⟩ := h.row
 exact h1.lt
end
theorem nan_u (x : Int) (w : World) : Calls Tryz.prog 147 #[.int .u64 x] w fun e w' => e = .returned (.bool false) ∧ w' = w := by
 go_enter Tryz.func147, Tryz.ntmps147
 go_wp2
 go_ret
 exact ⟨by simp, rfl⟩
theorem less_u (x y : Int) (w : World) : Calls Tryz.prog 219 #[.int .u64 x, .int .u64 y] w fun e w' => e = .returned (.bool (ltInt x y)) ∧ w' = w := by
 go_enter Tryz.func219, Tryz.ntmps219
 go_wp2_with (go_at_call 147; refine (nan_u _ _).mono ?_; rintro e w' ⟨rfl, rfl⟩)
 go_ret
 exact ⟨rfl, rfl⟩
theorem ins_u {w wr : World} {blk off cap a b : Nat} {d : Array Int} (h : SR w wr blk off d) (hab : a ≤ b) (hb : b ≤ d.size) (hsz : d.size < 4611686018427387904) :
    Calls Tryz.prog 213 #[.slice (some ⟨blk, off, none⟩) d.size cap, .int .i64 a, .int .i64 b] wr fun e w' => e = .returned (.tuple #[]) ∧ SR w w' blk off (insertionSort ltInt d a b) := by
 have HS := Lib.hid h; clear h
 go_enter Tryz.func213, Tryz.ntmps213
 go_wp2
 go_loopw [6] (fun vi wr => ∃ (i : Nat) (dk : Array Int), vi = .int .i64 i ∧ a < i ∧ i ≤ b + 1 ∧ dk.size = d.size ∧ Hid (SR w wr blk off dk) ∧ Hid (insOuter ltInt a b i dk = insOuter ltInt a b (a + 1) d)) (fun vi _ => b + 1 - (intOf vi).toNat)
 case atStart => exact ⟨a + 1, d, by go_num, by omega, by omega, rfl, HS, Lib.hid rfl⟩
 case round =>
  clear HS
  obtain ⟨i, dk, rfl, hai, hib, hsk, HS, HO⟩ := hrel
  by_cases hlt : i < b
  {
  go_wp2
  go_loopw [7] (fun vj wr2 => ∃ (j : Nat) (dj : Array Int), vj = .int .i64 j ∧ a ≤ j ∧ j ≤ i ∧ dj.size = d.size ∧ Hid (SR w wr2 blk off dj) ∧ Hid (insInner ltInt a j dj = insInner ltInt a i dk)) (fun vj _ => (intOf vj).toNat)
  case atStart => exact ⟨i, dk, rfl, by omega, Nat.le_refl _, hsk, HS, Lib.hid rfl⟩
  case round =>
   clear HS
   obtain ⟨j, dj, rfl, haj, hji, hsj, HS, HI⟩ := hrel
   have OUT : ∀ q, (j ≤ a ∨ ltInt dj[j]! dj[j - 1]! = false) → Hid (SR w (wr.drewN q) blk off dj) ∧ Hid (insOuter ltInt a b (i + 1) dj = insOuter ltInt a b (a + 1) d) := fun q hs =>
     ⟨Lib.hid (HS.out.drewN q), Lib.hid (by rw [← HO.out, insOuter_go _ _ _ _ _ hlt, ← HI.out, insInner_stop _ _ _ _ hs])⟩
   have HOUT := Lib.hid OUT; clear OUT
   by_cases hja : a < j
   {
   have hc : ∀ t, t < d.size → wr.cell? ⟨blk, off + t, none⟩ = some (.int .u64 dj[t]!) := fun t ht => HS.out.cell (by omega)
   have hf : ∀ t, t < d.size → wr.frozen? ⟨blk, off + t, none⟩ = false := fun t _ => HS.out.frozen _
   obtain ⟨G, hG⟩ : ∃ G : Nat → Int, ∀ t, dj[t]! = G t := ⟨fun t => dj[t]!, fun _ => rfl⟩
   simp only [hG] at hc
   have HG := Lib.hid hG; clear hG
   cases hl : ltInt (G j) (G (j - 1)) with
   | true => {
   go_wp2
   go_quiet (first | (go_at_call 219; refine Calls.quiet_of_same (less_u _ _ _)))
   go_wp2
   go_region
   all_goals go_wp2
   go_roundw
   case rel =>
    refine ⟨j - 1, swp dj j (j - 1), by congr 1; omega, by omega, by omega, by rw [size_swp]; exact hsj, Lib.hid ?_, Lib.hid ?_⟩
    {
    have := HS.out.swap (nq + 1) (i := j) (j := j - 1) (by omega) (by omega)
    rw [HG.out, HG.out] at this
    exact this
    }
    · rw [← HI.out, insInner_go ltInt a j dj hja (by rw [HG.out, HG.out]; exact hl)]
   case measure => simp [intOf]; omega
   }
   | false => {
   go_wp2
   go_quiet (first | (go_at_call 219; refine Calls.quiet_of_same (less_u _ _ _)))
   go_wp2
   go_roundw
   case rel =>
    obtain ⟨h1, h2⟩ := HOUT.out nq (.inr (by rw [HG.out, HG.out]; exact hl))
    exact ⟨i + 1, dj, by go_num, by omega, by omega, hsj, h1, h2⟩
   case measure => simp [intOf]; omega
   }
   }
   {
   go_wp2
   go_quiet (first | (go_at_call 219; refine Calls.quiet_of_same (less_u _ _ _)))
   go_wp2
   go_roundw
   case rel =>
    obtain ⟨h1, h2⟩ := HOUT.out nq (.inl (by omega))
    exact ⟨i + 1, dj, by go_num, by omega, by omega, hsj, h1, h2⟩
   case measure => simp [intOf]; omega
   }
  }
  {
  go_wp2
  go_end0
  exact ⟨rfl, by unfold Sort.insertionSort; rw [← HO.out, insOuter_stop _ _ _ _ _ hlt]; exact HS.out⟩
  }
end Go.Proofs.YtgmnemndjjmgkaaGreat

/- slices.Sort at uint64: siftDownOrdered, heapSortOrdered, reverseRangeOrdered. -/
namespace Go.Proofs.YtgmnemndjjmgkaaGreat
open Go.RowKit Go.Sort
set_option maxRecDepth 10000
set_option maxHeartbeats 1600000
theorem wrapN {x : Int} {y : Nat} (h : x = y) (hy : y < 9223372036854775808) : IntKind.i64.wrap x = (y : Int) := by rw [h]; exact IntWalk.i64_in _ (by omega)
theorem sift_u {w wr : World} {blk off cap lo hi first n : Nat} {d : Array Int} (h : SR w wr blk off d) (hn : d.size = n) (hlo : lo ≤ hi) (hb : first + hi ≤ n) (hsz : n < 4611686018427387904) :
    Calls Tryz.prog 226 #[.slice (some ⟨blk, off, none⟩) n cap, .int .i64 lo, .int .i64 hi, .int .i64 first] wr fun e w' => e = .returned (.tuple #[]) ∧ SR w w' blk off (siftDown ltInt hi first lo d) := by
 have HS := Lib.hid h; clear h
 go_enter Tryz.func226, Tryz.ntmps226
 go_wp2
 go_loopw [8] (fun vr wr => ∃ (root : Nat) (dk : Array Int), vr = .int .i64 root ∧ root ≤ hi ∧ dk.size = n ∧ Hid (SR w wr blk off dk) ∧ Hid (siftDown ltInt hi first root dk = siftDown ltInt hi first lo d)) (fun vr _ => hi - (intOf vr).toNat)
 case atStart => exact ⟨lo, d, rfl, hlo, hn, HS, Lib.hid rfl⟩
 case round =>
  clear HS
  obtain ⟨root, dk, rfl, hr, hsk, HS, HO⟩ := hrel
  obtain ⟨c, hc⟩ : ∃ c : Nat, c = 2 * root + 1 := ⟨_, rfl⟩
  have hci : 2 * (root : Int) + 1 = (c : Int) := by omega
  by_cases h1 : hi ≤ 2 * root + 1
  {
  have hd : decide (hi ≤ c) = true := decide_eq_true (by omega)
  have Hc := Lib.hid hc; clear hc
  go_wp2
  go_end0
  exact ⟨rfl, by rw [← HO.out, sd_end _ _ h1]; exact HS.out⟩
  }
  {
  have hd : decide (hi ≤ c) = false := decide_eq_false (by omega)
  have hlt0 : c < hi := by omega
  obtain ⟨r, hrr⟩ : ∃ r : Nat, r = first + root := ⟨_, rfl⟩
  obtain ⟨p, hp⟩ : ∃ p : Nat, p = first + c := ⟨_, rfl⟩
  obtain ⟨p1, hp1⟩ : ∃ p1 : Nat, p1 = first + c + 1 := ⟨_, rfl⟩
  obtain ⟨G, hG⟩ : ∃ G : Nat → Int, ∀ t, dk[t]! = G t := ⟨fun t => dk[t]!, fun _ => rfl⟩
  have cr : wr.cell? ⟨blk, off + r, none⟩ = some (.int .u64 (G r)) := by rw [HS.out.cell (by omega), hG]
  have cp : wr.cell? ⟨blk, off + p, none⟩ = some (.int .u64 (G p)) := by rw [HS.out.cell (by omega), hG]
  have fr : wr.frozen? ⟨blk, off + r, none⟩ = false := HS.out.frozen _
  have fp : wr.frozen? ⟨blk, off + p, none⟩ = false := HS.out.frozen _
  have rn : (r : Int) < n := by omega
  have pn : (p : Int) < n := by omega
  have ne3 : r ≠ p := by omega
  have ne4 : p ≠ r := by omega
  have wr1 : IntKind.i64.wrap ((first : Int) + root) = (r : Int) := wrapN (by omega) (by omega)
  have wp : IntKind.i64.wrap ((first : Int) + c) = (p : Int) := wrapN (by omega) (by omega)
  obtain ⟨c1, hc1⟩ : ∃ c1 : Nat, c1 = c + 1 := ⟨_, rfl⟩
  have wc1 : IntKind.i64.wrap ((c : Int) + 1) = (c1 : Int) := wrapN (by omega) (by omega)
  have hc1i : (c : Int) + 1 = (c1 : Int) := by omega
  by_cases h2 : c1 < hi
  {
  have hd1 : decide ((c1 : Int) < (hi : Int)) = true := decide_eq_true (by omega)
  have cp1 : wr.cell? ⟨blk, off + p1, none⟩ = some (.int .u64 (G p1)) := by rw [HS.out.cell (by omega), hG]
  have fp1 : wr.frozen? ⟨blk, off + p1, none⟩ = false := HS.out.frozen _
  have p1n : (p1 : Int) < n := by omega
  have ne1 : r ≠ p1 := by omega
  have ne2 : p1 ≠ r := by omega
  have wp1 : IntKind.i64.wrap ((p : Int) + 1) = (p1 : Int) := wrapN (by omega) (by omega)
  have wp1' : IntKind.i64.wrap ((first : Int) + c1) = (p1 : Int) := wrapN (by omega) (by omega)
  have HN := Lib.hid (show r = first + root ∧ p = first + (2 * root + 1) ∧ p1 = first + (2 * root + 2) ∧ c = 2 * root + 1 ∧ c1 = 2 * root + 2 by omega)
  have HG := Lib.hid hG; clear hG hc hp hp1 hrr hc1 h1
  cases hl2 : ltInt (G p) (G p1) with
  | true => {
  cases hl3 : ltInt (G r) (G p1) with
  | false => {
  go_wp2
  go_quiet (first | (go_at_call 219; refine Calls.quiet_of_same (less_u _ _ _)))
  go_wp2
  have cr2 : (wr.drewN nq).cell? ⟨blk, off + r, none⟩ = some (.int .u64 (G r)) := cr
  have fr2 : (wr.drewN nq).frozen? ⟨blk, off + r, none⟩ = false := fr
  have cp2 : (wr.drewN nq).cell? ⟨blk, off + p, none⟩ = some (.int .u64 (G p)) := cp
  have fp2 : (wr.drewN nq).frozen? ⟨blk, off + p, none⟩ = false := fp
  have cp12 : (wr.drewN nq).cell? ⟨blk, off + p1, none⟩ = some (.int .u64 (G p1)) := cp1
  have fp12 : (wr.drewN nq).frozen? ⟨blk, off + p1, none⟩ = false := fp1
  have HS2 := Lib.hid (HS.out.drewN nq)
  generalize wr.drewN nq = wr2 at *
  go_quiet (first | (go_at_call 219; refine Calls.quiet_of_same (less_u _ _ _)))
  go_wp2
  (try simp only [Exit.inBlock, Exit.then]); refine bodyPost_ret (results_none rfl _ _ _) rfl ?_
  exact ⟨rfl, by
    obtain ⟨e1, e2, e3, e4, e5⟩ := HN.out
    rw [← HO.out, sd_right_stop (root := root) ltInt dk (by omega) (by rw [← e2, ← e3, HG.out, HG.out]; exact hl2) (by rw [← e1, ← e3, HG.out, HG.out]; exact hl3)]; exact HS2.out.drewN _⟩
  }
  | true => {
  go_wp2
  go_quiet (first | (go_at_call 219; refine Calls.quiet_of_same (less_u _ _ _)))
  go_wp2
  have cr2 : (wr.drewN nq).cell? ⟨blk, off + r, none⟩ = some (.int .u64 (G r)) := cr
  have fr2 : (wr.drewN nq).frozen? ⟨blk, off + r, none⟩ = false := fr
  have cp2 : (wr.drewN nq).cell? ⟨blk, off + p, none⟩ = some (.int .u64 (G p)) := cp
  have fp2 : (wr.drewN nq).frozen? ⟨blk, off + p, none⟩ = false := fp
  have cp12 : (wr.drewN nq).cell? ⟨blk, off + p1, none⟩ = some (.int .u64 (G p1)) := cp1
  have fp12 : (wr.drewN nq).frozen? ⟨blk, off + p1, none⟩ = false := fp1
  have HS2 := Lib.hid (HS.out.drewN nq)
  generalize wr.drewN nq = wr2 at *
  go_quiet (first | (go_at_call 219; refine Calls.quiet_of_same (less_u _ _ _)))
  go_wp2
  go_region
  all_goals go_wp2
  go_roundw
  case rel =>
   obtain ⟨e1, e2, e3, e4, e5⟩ := HN.out
   refine ⟨c1, swp dk r p1, rfl, by omega, by rw [size_swp]; exact hsk, Lib.hid ?_, Lib.hid ?_⟩
   {
   have := HS2.out.swap (nq + 1) (i := r) (j := p1) (by omega) (by omega)
   rw [HG.out, HG.out] at this
   exact this
   }
   · rw [← HO.out, sd_right_go (root := root) ltInt dk (by omega) (by rw [← e2, ← e3, HG.out, HG.out]; exact hl2) (by rw [← e1, ← e3, HG.out, HG.out]; exact hl3), e1, e3, e5]
  case measure => simp [intOf]; have := HN.out; omega
  }
  }
  | false => {
  cases hl3 : ltInt (G r) (G p) with
  | false => {
  go_wp2
  go_quiet (first | (go_at_call 219; refine Calls.quiet_of_same (less_u _ _ _)))
  go_wp2
  have cr2 : (wr.drewN nq).cell? ⟨blk, off + r, none⟩ = some (.int .u64 (G r)) := cr
  have fr2 : (wr.drewN nq).frozen? ⟨blk, off + r, none⟩ = false := fr
  have cp2 : (wr.drewN nq).cell? ⟨blk, off + p, none⟩ = some (.int .u64 (G p)) := cp
  have fp2 : (wr.drewN nq).frozen? ⟨blk, off + p, none⟩ = false := fp
  have cp12 : (wr.drewN nq).cell? ⟨blk, off + p1, none⟩ = some (.int .u64 (G p1)) := cp1
  have fp12 : (wr.drewN nq).frozen? ⟨blk, off + p1, none⟩ = false := fp1
  have HS2 := Lib.hid (HS.out.drewN nq)
  generalize wr.drewN nq = wr2 at *
  go_quiet (first | (go_at_call 219; refine Calls.quiet_of_same (less_u _ _ _)))
  go_wp2
  (try simp only [Exit.inBlock, Exit.then]); refine bodyPost_ret (results_none rfl _ _ _) rfl ?_
  exact ⟨rfl, by
    obtain ⟨e1, e2, e3, e4, e5⟩ := HN.out
    rw [← HO.out, sd_left_stop (root := root) ltInt dk (by omega) (fun _ => by rw [← e2, ← e3, HG.out, HG.out]; exact hl2) (by rw [← e1, ← e2, HG.out, HG.out]; exact hl3)]; exact HS2.out.drewN _⟩
  }
  | true => {
  go_wp2
  go_quiet (first | (go_at_call 219; refine Calls.quiet_of_same (less_u _ _ _)))
  go_wp2
  have cr2 : (wr.drewN nq).cell? ⟨blk, off + r, none⟩ = some (.int .u64 (G r)) := cr
  have fr2 : (wr.drewN nq).frozen? ⟨blk, off + r, none⟩ = false := fr
  have cp2 : (wr.drewN nq).cell? ⟨blk, off + p, none⟩ = some (.int .u64 (G p)) := cp
  have fp2 : (wr.drewN nq).frozen? ⟨blk, off + p, none⟩ = false := fp
  have cp12 : (wr.drewN nq).cell? ⟨blk, off + p1, none⟩ = some (.int .u64 (G p1)) := cp1
  have fp12 : (wr.drewN nq).frozen? ⟨blk, off + p1, none⟩ = false := fp1
  have HS2 := Lib.hid (HS.out.drewN nq)
  generalize wr.drewN nq = wr2 at *
  go_quiet (first | (go_at_call 219; refine Calls.quiet_of_same (less_u _ _ _)))
  go_wp2
  go_region
  all_goals go_wp2
  go_roundw
  case rel =>
   obtain ⟨e1, e2, e3, e4, e5⟩ := HN.out
   refine ⟨c, swp dk r p, rfl, by omega, by rw [size_swp]; exact hsk, Lib.hid ?_, Lib.hid ?_⟩
   {
   have := HS2.out.swap (nq + 1) (i := r) (j := p) (by omega) (by omega)
   rw [HG.out, HG.out] at this
   exact this
   }
   · rw [← HO.out, sd_left_go (root := root) ltInt dk (by omega) (fun _ => by rw [← e2, ← e3, HG.out, HG.out]; exact hl2) (by rw [← e1, ← e2, HG.out, HG.out]; exact hl3), e1, e2, e4]
  case measure => simp [intOf]; have := HN.out; omega
  }
  }
  }
  {
  have hd1 : decide ((c1 : Int) < (hi : Int)) = false := decide_eq_false (by omega)
  have HN := Lib.hid (show r = first + root ∧ p = first + (2 * root + 1) ∧ p1 = first + (2 * root + 2) ∧ c = 2 * root + 1 ∧ c1 = 2 * root + 2 by omega)
  have H1 := Lib.hid h1
  have HG := Lib.hid hG; clear hG hc hp hp1 hrr hc1 h1
  cases hl3 : ltInt (G r) (G p) with
  | false => {
  go_wp2
  go_quiet (first | (go_at_call 219; refine Calls.quiet_of_same (less_u _ _ _)))
  go_wp2
  have cr2 : (wr.drewN nq).cell? ⟨blk, off + r, none⟩ = some (.int .u64 (G r)) := cr
  have fr2 : (wr.drewN nq).frozen? ⟨blk, off + r, none⟩ = false := fr
  have cp2 : (wr.drewN nq).cell? ⟨blk, off + p, none⟩ = some (.int .u64 (G p)) := cp
  have fp2 : (wr.drewN nq).frozen? ⟨blk, off + p, none⟩ = false := fp
  have HS2 := Lib.hid (HS.out.drewN nq)
  generalize wr.drewN nq = wr2 at *
  go_quiet (first | (go_at_call 219; refine Calls.quiet_of_same (less_u _ _ _)))
  go_wp2
  (try simp only [Exit.inBlock, Exit.then]); refine bodyPost_ret (results_none rfl _ _ _) rfl ?_
  exact ⟨rfl, by
    obtain ⟨e1, e2, e3, e4, e5⟩ := HN.out
    rw [← HO.out, sd_left_stop (root := root) ltInt dk (by have := H1.out; omega) (fun _ => by omega) (by rw [← e1, ← e2, HG.out, HG.out]; exact hl3)]; exact HS2.out.drewN _⟩
  }
  | true => {
  go_wp2
  go_quiet (first | (go_at_call 219; refine Calls.quiet_of_same (less_u _ _ _)))
  go_wp2
  have cr2 : (wr.drewN nq).cell? ⟨blk, off + r, none⟩ = some (.int .u64 (G r)) := cr
  have fr2 : (wr.drewN nq).frozen? ⟨blk, off + r, none⟩ = false := fr
  have cp2 : (wr.drewN nq).cell? ⟨blk, off + p, none⟩ = some (.int .u64 (G p)) := cp
  have fp2 : (wr.drewN nq).frozen? ⟨blk, off + p, none⟩ = false := fp
  have HS2 := Lib.hid (HS.out.drewN nq)
  generalize wr.drewN nq = wr2 at *
  go_quiet (first | (go_at_call 219; refine Calls.quiet_of_same (less_u _ _ _)))
  go_wp2
  go_region
  all_goals go_wp2
  go_roundw
  case rel =>
   obtain ⟨e1, e2, e3, e4, e5⟩ := HN.out
   refine ⟨c, swp dk r p, rfl, by have := H1.out; omega, by rw [size_swp]; exact hsk, Lib.hid ?_, Lib.hid ?_⟩
   {
   have := HS2.out.swap (nq + 1) (i := r) (j := p) (by omega) (by omega)
   rw [HG.out, HG.out] at this
   exact this
   }
   · rw [← HO.out, sd_left_go (root := root) ltInt dk (by have := H1.out; omega) (fun _ => by omega) (by rw [← e1, ← e2, HG.out, HG.out]; exact hl3), e1, e2, e4]
  case measure => simp [intOf]; have := HN.out; have := H1.out; omega
  }
  }
  }
end Go.Proofs.YtgmnemndjjmgkaaGreat

/- slices.Sort at uint64: heapSortOrdered, reverseRangeOrdered, order2Ordered, medianOrdered, medianAdjacentOrdered. -/
namespace Go.Proofs.YtgmnemndjjmgkaaGreat
open Go.RowKit Go.Sort
set_option maxRecDepth 10000
set_option maxHeartbeats 1600000
theorem SR.swapD {w wr : World} {blk off : Nat} {d : Array Int} (h : SR w wr blk off d) {i j : Nat} (hi : i < d.size) (hj : j < d.size) :
    SR w ((wr.setCell ⟨blk, off + i, none⟩ (.int .u64 d[j]!)).setCell ⟨blk, off + j, none⟩ (.int .u64 d[i]!)).drew blk off (swp d i j) := by
 have := h.swap 0 hi hj
 exact this.drewN 1
theorem heap_u {w wr : World} {blk off cap a b n : Nat} {d : Array Int} (h : SR w wr blk off d) (hn : d.size = n) (hab : a ≤ b) (hb : b ≤ n) (hsz : n < 4611686018427387904) :
    Calls Tryz.prog 214 #[.slice (some ⟨blk, off, none⟩) n cap, .int .i64 a, .int .i64 b] wr fun e w' => e = .returned (.tuple #[]) ∧ SR w w' blk off (heapSort ltInt d a b) := by
 obtain ⟨m, hm⟩ : ∃ m : Nat, m = b - a := ⟨_, rfl⟩
 obtain ⟨k0, hk0⟩ : ∃ k0 : Nat, k0 = (m - 1) / 2 + 1 := ⟨_, rfl⟩
 have hmi : (b : Int) - (a : Int) = (m : Int) := by omega
 have htd : ((m : Int) - 1).tdiv 2 = (k0 : Int) - 1 := by {
 have := half_start hab
 rw [hmi, ← hm] at this
 rw [this, hk0]
 }
 have hk0m : k0 ≤ m + 1 := by omega
 have hkm : k0 ≤ m ∨ m = 0 := by omega
 have HE := Lib.hid (show heapSort ltInt d a b = heapPop ltInt a m (heapBuild ltInt m a k0 d) by unfold heapSort; rw [← hm, ← hk0])
 have ham : a + m ≤ n := by omega
 clear hm hk0
 have HS := Lib.hid h; clear h
 go_enter Tryz.func214, Tryz.ntmps214
 go_wp2
 go_loopw [9] (fun vi wr => ∃ (k : Nat) (dk : Array Int), vi = .int .i64 ((k : Int) - 1) ∧ k ≤ k0 ∧ dk.size = n ∧ Hid (SR w wr blk off dk) ∧ Hid (heapBuild ltInt m a k dk = heapBuild ltInt m a k0 d)) (fun vi _ => (intOf vi + 1).toNat)
 case atStart => exact ⟨k0, d, rfl, Nat.le_refl _, hn, HS, Lib.hid rfl⟩
 case round =>
  clear HS
  obtain ⟨k, dk, rfl, hk, hsk, HS, HB⟩ := hrel
  cases k with
  | succ k => {
  have e1 : ((k + 1 : Nat) : Int) - 1 = (k : Int) := by omega
  rw [e1]
  have hd : decide ((k : Int) ≥ 0) = true := decide_eq_true (by omega)
  have hkm2 : k ≤ m := by omega
  have HC := Lib.hid (sift_u (cap := cap) HS.out hsk hkm2 ham hsz)
  go_wp2_with fail
  refine HC.out.mono ?_
  rintro _ w2 ⟨rfl, h2⟩
  have HS2 := Lib.hid h2; clear h2
  go_wp2
  go_roundw
  case rel => exact ⟨k, _, rfl, by omega, by rw [size_siftDown _ _ _ (m - k) _ _ (Nat.le_refl _)]; exact hsk, HS2, Lib.hid (by rw [← HB.out]; rfl)⟩
  case measure => simp [intOf]
  }
  | zero => {
  rw [show (((0 : Nat) : Int) - 1) = -1 from rfl]
  have HB2 := Lib.hid (show dk = heapBuild ltInt m a k0 d from HB.out)
  go_wp2
  go_loopw [10] (fun vi wr => ∃ (k : Nat) (dj : Array Int), vi = .int .i64 ((k : Int) - 1) ∧ k ≤ m ∧ dj.size = n ∧ Hid (SR w wr blk off dj) ∧ Hid (heapPop ltInt a k dj = heapPop ltInt a m dk)) (fun vi _ => (intOf vi + 1).toNat)
  case atStart => exact ⟨m, dk, rfl, Nat.le_refl _, hsk, HS, Lib.hid rfl⟩
  case round =>
   clear HS
   obtain ⟨k, dj, rfl, hk, hsj, HS, HP⟩ := hrel
   cases k with
   | succ k => {
   have e1 : ((k + 1 : Nat) : Int) - 1 = (k : Int) := by omega
   rw [e1]
   have hd : decide ((k : Int) ≥ 0) = true := decide_eq_true (by omega)
   obtain ⟨p, hp⟩ : ∃ p : Nat, p = a + k := ⟨_, rfl⟩
   have wp : IntKind.i64.wrap ((a : Int) + k) = (p : Int) := wrapN (by omega) (by omega)
   obtain ⟨G, hG⟩ : ∃ G : Nat → Int, ∀ t, dj[t]! = G t := ⟨fun t => dj[t]!, fun _ => rfl⟩
   have ca : wr.cell? ⟨blk, off + a, none⟩ = some (.int .u64 (G a)) := by rw [HS.out.cell (by omega), hG]
   have fa : wr.frozen? ⟨blk, off + a, none⟩ = false := HS.out.frozen _
   have an : (a : Int) < n := by omega
   have hsw : SR w ((wr.setCell ⟨blk, off + a, none⟩ (.int .u64 (G p))).setCell ⟨blk, off + p, none⟩ (.int .u64 (G a))).drew blk off (swp dj a p) := by {
   have := HS.out.swapD (i := a) (j := p) (by omega) (by omega)
   rw [hG, hG] at this
   exact this
   }
   have HSw := Lib.hid hsw; clear hsw
   have hkm2 : 0 ≤ k := by omega
   have hak : a + k ≤ n := by omega
   have HC := Lib.hid (fun (w2 : World) (h : SR w w2 blk off (swp dj a p)) => sift_u (cap := cap) (lo := 0) h (by rw [size_swp]; exact hsj) hkm2 hak hsz)
   have HP2 := Lib.hid (show heapPop ltInt a k (siftDown ltInt k a 0 (swp dj a p)) = heapPop ltInt a m dk by rw [← HP.out, hp]; rfl)
   by_cases hk0 : k = 0
   {
   subst hk0
   obtain rfl : p = a := by omega
   clear hp
   go_wp2
   go_region
   all_goals go_wp2_with fail
   refine (HC.out _ (HSw.out)).mono ?_
   rintro _ w2 ⟨rfl, h2⟩
   have HS2 := Lib.hid h2; clear h2
   go_wp2
   go_roundw
   case rel => exact ⟨0, _, rfl, by omega, by rw [size_siftDown _ _ _ 0 _ _ (Nat.le_refl _), size_swp]; exact hsj, HS2, HP2⟩
   case measure => simp [intOf]
   }
   {
   have ne1 : a ≠ p := by omega
   have ne2 : p ≠ a := by omega
   have cp : wr.cell? ⟨blk, off + p, none⟩ = some (.int .u64 (G p)) := by rw [HS.out.cell (by omega), hG]
   have fp : wr.frozen? ⟨blk, off + p, none⟩ = false := HS.out.frozen _
   have pn : (p : Int) < n := by omega
   clear hp
   go_wp2
   go_region
   all_goals go_wp2_with fail
   refine (HC.out _ (HSw.out)).mono ?_
   rintro _ w2 ⟨rfl, h2⟩
   have HS2 := Lib.hid h2; clear h2
   go_wp2
   go_roundw
   case rel => exact ⟨k, _, rfl, by omega, by rw [size_siftDown _ _ _ (k - 0) _ _ (Nat.le_refl _), size_swp]; exact hsj, HS2, HP2⟩
   case measure => simp [intOf]
   }
   }
   | zero => {
   rw [show (((0 : Nat) : Int) - 1) = -1 from rfl]
   go_wp2
   go_end0
   exact ⟨rfl, by rw [HE.out, ← HB2.out, ← HP.out]; exact HS.out⟩
   }
  }
theorem rev_u {w wr : World} {blk off cap a b n : Nat} {d : Array Int} (h : SR w wr blk off d) (hn : d.size = n) (hab : a ≤ b) (hb : b ≤ n) (hsz : n < 4611686018427387904) :
    Calls Tryz.prog 217 #[.slice (some ⟨blk, off, none⟩) n cap, .int .i64 a, .int .i64 b] wr fun e w' => e = .returned (.tuple #[]) ∧ SR w w' blk off (reverseRange d a b) := by
 have HS := Lib.hid h; clear h
 go_enter Tryz.func217, Tryz.ntmps217
 go_wp2
 go_loopw [6, 7] (fun vi vj wr => ∃ (i : Nat) (j : Int) (dk : Array Int), vi = .int .i64 i ∧ vj = .int .i64 j ∧ a ≤ i ∧ -1 ≤ j ∧ j < b ∧ (i : Int) ≤ b ∧ dk.size = n ∧ Hid (SR w wr blk off dk) ∧ Hid (reverseLoop i j.toNat dk = reverseRange d a b)) (fun vi vj _ => (intOf vj - intOf vi).toNat)
 case atStart => exact ⟨a, (b : Int) - 1, d, rfl, rfl, Nat.le_refl _, by omega, by omega, by omega, hn, HS, Lib.hid (by unfold reverseRange; congr 1; omega)⟩
 case round =>
  clear HS
  obtain ⟨i, j, dk, rfl, rfl, hai, hj1, hjb, hib, hsk, HS, HR⟩ := hrel
  by_cases hlt : (i : Int) < j
  {
  obtain ⟨j, rfl⟩ : ∃ k : Nat, j = k := ⟨j.toNat, by omega⟩
  have ne1 : i ≠ j := by omega
  have ne2 : j ≠ i := by omega
  obtain ⟨G, hG⟩ : ∃ G : Nat → Int, ∀ t, dk[t]! = G t := ⟨fun t => dk[t]!, fun _ => rfl⟩
  have ci : wr.cell? ⟨blk, off + i, none⟩ = some (.int .u64 (G i)) := by rw [HS.out.cell (by omega), hG]
  have cj : wr.cell? ⟨blk, off + j, none⟩ = some (.int .u64 (G j)) := by rw [HS.out.cell (by omega), hG]
  have fi : wr.frozen? ⟨blk, off + i, none⟩ = false := HS.out.frozen _
  have fj : wr.frozen? ⟨blk, off + j, none⟩ = false := HS.out.frozen _
  have i_n : (i : Int) < n := by omega
  have j_n : (j : Int) < n := by omega
  have hsw : SR w ((wr.setCell ⟨blk, off + i, none⟩ (.int .u64 (G j))).setCell ⟨blk, off + j, none⟩ (.int .u64 (G i))).drew blk off (swp dk i j) := by {
  have := HS.out.swapD (i := i) (j := j) (by omega) (by omega)
  rw [hG, hG] at this
  exact this
  }
  have HSw := Lib.hid hsw; clear hsw
  have HR2 := Lib.hid (show reverseLoop (i + 1) (j - 1) (swp dk i j) = reverseRange d a b by rw [← HR.out, reverseLoop.eq_1 i _ dk, if_pos (by omega)]; simp)
  go_wp2
  go_region
  all_goals go_wp2
  go_roundw
  case rel => exact ⟨i + 1, (j : Int) - 1, _, by go_num, rfl, by omega, by omega, by omega, by omega, by rw [size_swp]; exact hsk, Lib.hid (HSw.out), Lib.hid (by rw [← HR2.out]; congr 1; omega)⟩
  case measure => simp [intOf]; omega
  }
  {
  go_wp2
  go_end0
  refine ⟨rfl, ?_⟩
  rw [← HR.out, reverseLoop.eq_1, if_neg (by omega)]
  exact HS.out
  }
end Go.Proofs.YtgmnemndjjmgkaaGreat

/- slices.Sort at uint64: order2Ordered, medianOrdered, medianAdjacentOrdered, choosePivotOrdered. -/
namespace Go.Proofs.YtgmnemndjjmgkaaGreat
open Go.RowKit Go.Sort
set_option maxRecDepth 10000
set_option maxHeartbeats 1600000
theorem less_is {x y : Int} {r : Bool} (h : ltInt x y = r) (w : World) : Calls Tryz.prog 219 #[.int .u64 x, .int .u64 y] w fun e w' => e = .returned (.bool r) ∧ w' = w := h ▸ less_u x y w
structure SM (w wr : World) (blk off : Nat) (d : Array Int) (sb s : Nat) : Prop where
  sr : SR w wr blk off d
  cnt : Blk wr sb 3 [.int .i64 s]
  ne : sb ≠ blk
  new : w.heap.size ≤ sb
section
variable {w wr : World} {blk off : Nat} {d : Array Int} {sb s : Nat}
theorem SM.drewN (h : SM w wr blk off d sb s) (q : Nat) : SM w (wr.drewN q) blk off d sb s := ⟨h.sr.drewN q, h.cnt.drewN q, h.ne, h.new⟩
theorem SM.bump (h : SM w wr blk off d sb s) (t : Nat) : SM w (wr.setCell ⟨sb, 0, none⟩ (.int .i64 t)) blk off d sb t := ⟨h.sr.other _ h.new h.ne, h.cnt.set 0 _, h.ne, h.new⟩
theorem order2_u {cap a b n : Nat} (h : SM w wr blk off d sb s) (hn : d.size = n) (ha : a < n) (hb : b < n) (hs : s < 1000) :
    Calls Tryz.prog 232 #[.slice (some ⟨blk, off, none⟩) n cap, .int .i64 a, .int .i64 b, .pointer (some ⟨sb, 0, none⟩)] wr fun e w' =>
      e = .returned (.tuple #[.int .i64 (order2 ltInt d a b s).1, .int .i64 (order2 ltInt d a b s).2.1]) ∧ SM w w' blk off d sb (order2 ltInt d a b s).2.2 := by
 obtain ⟨G, hG⟩ : ∃ G : Nat → Int, ∀ t, d[t]! = G t := ⟨fun t => d[t]!, fun _ => rfl⟩
 have ca : wr.cell? ⟨blk, off + a, none⟩ = some (.int .u64 (G a)) := by rw [h.sr.cell (by omega), hG]
 have cb : wr.cell? ⟨blk, off + b, none⟩ = some (.int .u64 (G b)) := by rw [h.sr.cell (by omega), hG]
 have c0 := h.cnt.cell 0
 have f0 := h.cnt.frozen 0
 simp only [List.getElem?_cons_zero] at c0
 have an : (a : Int) < n := by omega
 have bn : (b : Int) < n := by omega
 have HS := Lib.hid h; clear h
 cases hl : ltInt (G b) (G a) with
 | true => {
 have e1 : order2 ltInt d a b s = (b, a, s + 1) := by unfold order2; rw [hG, hG, hl]; rfl
 rw [e1]; clear e1
 have HG := Lib.hid hG; clear hG
 go_enter Tryz.func232, Tryz.ntmps232
 go_wp2
 go_quiet (first | (go_at_call 219; refine Calls.quiet_of_same (less_is hl _)))
 go_wp2
 go_ret2
 exact ⟨rfl, (HS.out.drewN nq).bump (s + 1)⟩
 }
 | false => {
 have e1 : order2 ltInt d a b s = (a, b, s) := by unfold order2; rw [hG, hG, hl]; rfl
 rw [e1]; clear e1
 have HG := Lib.hid hG; clear hG
 go_enter Tryz.func232, Tryz.ntmps232
 go_wp2
 go_quiet (first | (go_at_call 219; refine Calls.quiet_of_same (less_is hl _)))
 go_wp2
 go_ret2
 exact ⟨rfl, HS.out.drewN nq⟩
 }
theorem median_u {cap a b c n : Nat} (h : SM w wr blk off d sb s) (hn : d.size = n) (ha : a < n) (hb : b < n) (hc : c < n) (hs : s < 900) :
    Calls Tryz.prog 228 #[.slice (some ⟨blk, off, none⟩) n cap, .int .i64 a, .int .i64 b, .int .i64 c, .pointer (some ⟨sb, 0, none⟩)] wr fun e w' =>
      e = .returned (.int .i64 (median ltInt d a b c s).1) ∧ SM w w' blk off d sb (median ltInt d a b c s).2 := by
 have e0 : median ltInt d a b c s = ((order2 ltInt d (order2 ltInt d a b s).1 (order2 ltInt d (order2 ltInt d a b s).2.1 c (order2 ltInt d a b s).2.2).1 (order2 ltInt d (order2 ltInt d a b s).2.1 c (order2 ltInt d a b s).2.2).2.2).2.1, (order2 ltInt d (order2 ltInt d a b s).1 (order2 ltInt d (order2 ltInt d a b s).2.1 c (order2 ltInt d a b s).2.2).1 (order2 ltInt d (order2 ltInt d a b s).2.1 c (order2 ltInt d a b s).2.2).2.2).2.2) := rfl
 rw [e0]; clear e0
 have H1 := Lib.hid (order2_u (cap := cap) h hn ha hb (by omega))
 obtain ⟨a1, a2⟩ := order2_lt d s ha hb
 have s1 := order2_swaps d a b s
 generalize order2 ltInt d a b s = r1 at *
 have H2 := Lib.hid (fun (w2 : World) (h : SM w w2 blk off d sb r1.2.2) => order2_u (cap := cap) h hn a2 hc (by omega))
 obtain ⟨b1, b2⟩ := order2_lt d r1.2.2 a2 hc
 have s2 := order2_swaps d r1.2.1 c r1.2.2
 generalize order2 ltInt d r1.2.1 c r1.2.2 = r2 at *
 have H3 := Lib.hid (fun (w2 : World) (h : SM w w2 blk off d sb r2.2.2) => order2_u (cap := cap) h hn a1 b1 (by omega))
 generalize order2 ltInt d r1.1 r2.1 r2.2.2 = r3 at *
 obtain ⟨x1, y1, z1⟩ := r1
 obtain ⟨x2, y2, z2⟩ := r2
 obtain ⟨x3, y3, z3⟩ := r3
 clear h
 go_enter Tryz.func228, Tryz.ntmps228
 go_wp2_with fail
 refine H1.out.mono ?_
 rintro _ w1 ⟨rfl, h1⟩
 have K1 := Lib.hid h1; clear h1
 go_wp2_with fail
 refine (H2.out _ K1.out).mono ?_
 rintro _ w2 ⟨rfl, h2⟩
 have K2 := Lib.hid h2; clear h2
 go_wp2_with fail
 refine (H3.out _ K2.out).mono ?_
 rintro _ w3 ⟨rfl, h3⟩
 have K3 := Lib.hid h3; clear h3
 go_wp2
 go_ret
 exact ⟨rfl, K3.out⟩
theorem median_bounds (d : Array Int) {a b c n : Nat} (s : Nat) (ha : a < n) (hb : b < n) (hc : c < n) : (median ltInt d a b c s).1 < n ∧ (median ltInt d a b c s).2 ≤ s + 3 := by
 have e0 : median ltInt d a b c s = ((order2 ltInt d (order2 ltInt d a b s).1 (order2 ltInt d (order2 ltInt d a b s).2.1 c (order2 ltInt d a b s).2.2).1 (order2 ltInt d (order2 ltInt d a b s).2.1 c (order2 ltInt d a b s).2.2).2.2).2.1, (order2 ltInt d (order2 ltInt d a b s).1 (order2 ltInt d (order2 ltInt d a b s).2.1 c (order2 ltInt d a b s).2.2).1 (order2 ltInt d (order2 ltInt d a b s).2.1 c (order2 ltInt d a b s).2.2).2.2).2.2) := rfl
 rw [e0]
 obtain ⟨a1, a2⟩ := order2_lt d s ha hb
 have s1 := order2_swaps d a b s
 generalize order2 ltInt d a b s = r1 at *
 obtain ⟨b1, b2⟩ := order2_lt d r1.2.2 a2 hc
 have s2 := order2_swaps d r1.2.1 c r1.2.2
 generalize order2 ltInt d r1.2.1 c r1.2.2 = r2 at *
 obtain ⟨c1, c2⟩ := order2_lt d r2.2.2 a1 b1
 have s3 := order2_swaps d r1.1 r2.1 r2.2.2
 dsimp only
 omega
theorem adj_u {cap a n : Nat} (h : SM w wr blk off d sb s) (hn : d.size = n) (ha0 : 1 ≤ a) (ha : a + 1 < n) (hs : s < 900) (hsz : n < 4611686018427387904) :
    Calls Tryz.prog 227 #[.slice (some ⟨blk, off, none⟩) n cap, .int .i64 a, .pointer (some ⟨sb, 0, none⟩)] wr fun e w' =>
      e = .returned (.int .i64 (medianAdjacent ltInt d a s).1) ∧ SM w w' blk off d sb (medianAdjacent ltInt d a s).2 := by
 have H1 := Lib.hid (median_u (cap := cap) h hn (show a - 1 < n by omega) (show a < n by omega) ha hs); clear h
 have e1 : (a : Int) - 1 = ((a - 1 : Nat) : Int) := by omega
 have e2 : (a : Int) + 1 = ((a + 1 : Nat) : Int) := by omega
 have e3 : medianAdjacent ltInt d a s = median ltInt d (a - 1) a (a + 1) s := rfl
 rw [e3]; clear e3
 generalize median ltInt d (a - 1) a (a + 1) s = r at *
 generalize a - 1 = a0 at *
 generalize a + 1 = a1 at *
 go_enter Tryz.func227, Tryz.ntmps227
 go_wp2_with fail
 refine H1.out.mono ?_
 rintro _ w1 ⟨rfl, h1⟩
 have K1 := Lib.hid h1; clear h1
 go_wp2
 go_ret
 exact ⟨rfl, K1.out⟩
theorem adj_bounds (d : Array Int) {a n : Nat} (s : Nat) (ha : a + 1 < n) : (medianAdjacent ltInt d a s).1 < n ∧ (medianAdjacent ltInt d a s).2 ≤ s + 3 :=
  median_bounds d s (show a - 1 < n by omega) (show a < n by omega) ha
end
end Go.Proofs.YtgmnemndjjmgkaaGreat

namespace Go.Proofs.YtgmnemndjjmgkaaGreat
open Go.RowKit Go.Sort
set_option maxRecDepth 10000
set_option maxHeartbeats 1600000
theorem choose_small (d : Array Int) {a b q : Nat} (hq : q = (b - a) / 4) (h : ¬ 8 ≤ b - a) : choosePivot ltInt d a b = (a + q * 2, .increasing) := by
 subst hq; unfold choosePivot; simp only [ge_iff_le]; rw [if_neg h]; rfl
theorem choose_mid (d : Array Int) {a b q : Nat} (hq : q = (b - a) / 4) (h : 8 ≤ b - a) (h2 : ¬ 50 ≤ b - a) : choosePivot ltInt d a b =
    ((median ltInt d (a + q * 1) (a + q * 2) (a + q * 3) 0).1, if (median ltInt d (a + q * 1) (a + q * 2) (a + q * 3) 0).2 = 0 then .increasing else if (median ltInt d (a + q * 1) (a + q * 2) (a + q * 3) 0).2 = 12 then .decreasing else .unknown) := by
 subst hq; unfold choosePivot; simp only [ge_iff_le]; rw [if_pos h, if_neg h2]
def big (d : Array Int) (i j k : Nat) : Nat × Nat :=
  median ltInt d (medianAdjacent ltInt d i 0).1 (medianAdjacent ltInt d j (medianAdjacent ltInt d i 0).2).1 (medianAdjacent ltInt d k (medianAdjacent ltInt d j (medianAdjacent ltInt d i 0).2).2).1 (medianAdjacent ltInt d k (medianAdjacent ltInt d j (medianAdjacent ltInt d i 0).2).2).2
theorem choose_big (d : Array Int) {a b q : Nat} (hq : q = (b - a) / 4) (h : 8 ≤ b - a) (h2 : 50 ≤ b - a) : choosePivot ltInt d a b =
    ((big d (a + q * 1) (a + q * 2) (a + q * 3)).1, if (big d (a + q * 1) (a + q * 2) (a + q * 3)).2 = 0 then .increasing else if (big d (a + q * 1) (a + q * 2) (a + q * 3)).2 = 12 then .decreasing else .unknown) := by
 subst hq; unfold choosePivot big; simp only [ge_iff_le]; rw [if_pos h, if_pos h2]
theorem pivot_u {w wr : World} {blk off : Nat} {d : Array Int} {cap a b n : Nat} (h : SR w wr blk off d) (hn : d.size = n) (hab : a < b) (hb : b ≤ n) (hsz : n < 4611686018427387904) :
    Calls Tryz.prog 216 #[.slice (some ⟨blk, off, none⟩) n cap, .int .i64 a, .int .i64 b] wr fun e w' =>
      e = .returned (.tuple #[.int .i64 (choosePivot ltInt d a b).1, .int .i64 (hintCode (choosePivot ltInt d a b).2)]) ∧ SR w w' blk off d := by
 obtain ⟨m, hm⟩ : ∃ m : Nat, m = b - a := ⟨_, rfl⟩
 obtain ⟨q, hq⟩ : ∃ q : Nat, q = (b - a) / 4 := ⟨_, rfl⟩
 have hmi : (b : Int) - (a : Int) = (m : Int) := by omega
 have hqi : ((m : Int)).tdiv 4 = (q : Int) := by rw [Int.tdiv_eq_ediv_of_nonneg (by omega)]; omega
 have hsm0 : SM w (wr.alloc (.cells #[.int .i64 0] 3)) blk off d wr.heap.size 0 :=
   ⟨h.alloc _, Blk.new wr [.int .i64 0] 3, by have := h.lt; omega, h.fr.size⟩
 have K0 := Lib.hid hsm0; clear hsm0
 have HQ := Lib.hid hq
 have hqb : 8 ≤ m → a + q * 3 + 1 < b := by omega
 have hq2 : 8 ≤ m → 2 ≤ q := by omega
 have HM := Lib.hid hm
 obtain ⟨i, hi⟩ : ∃ i : Nat, i = a + q * 1 := ⟨_, rfl⟩
 obtain ⟨j, hj⟩ : ∃ j : Nat, j = a + q * 2 := ⟨_, rfl⟩
 obtain ⟨k, hk⟩ : ∃ k : Nat, k = a + q * 3 := ⟨_, rfl⟩
 have hii : (a : Int) + q = (i : Int) := by omega
 have hji : (a : Int) + q * 2 = (j : Int) := by omega
 have hki : (a : Int) + q * 3 = (k : Int) := by omega
 have hq3 : a + q * 3 ≤ n := by omega
 by_cases h8 : 8 ≤ m
 {
 by_cases h50 : 50 ≤ m
 {
 have hres := choose_big d HQ.out (by omega) (by omega)
 rw [← hi, ← hj, ← hk] at hres
 have b1 : 1 ≤ i ∧ i + 1 < n ∧ 1 ≤ j ∧ j + 1 < n ∧ 1 ≤ k ∧ k + 1 < n := by have := hq2 h8; have := hqb h8; omega
 have A1 := Lib.hid (adj_u (cap := cap) K0.out hn b1.1 b1.2.1 (by omega) hsz)
 have B1 := adj_bounds d 0 b1.2.1
 unfold big at hres
 generalize medianAdjacent ltInt d i 0 = r1 at *
 have A2 := Lib.hid (fun (w2 : World) (h : SM w w2 blk off d wr.heap.size r1.2) => adj_u (cap := cap) h hn b1.2.2.1 b1.2.2.2.1 (by omega) hsz)
 have B2 := adj_bounds d r1.2 b1.2.2.2.1
 generalize medianAdjacent ltInt d j r1.2 = r2 at *
 have A3 := Lib.hid (fun (w2 : World) (h : SM w w2 blk off d wr.heap.size r2.2) => adj_u (cap := cap) h hn b1.2.2.2.2.1 b1.2.2.2.2.2 (by omega) hsz)
 have B3 := adj_bounds d r2.2 b1.2.2.2.2.2
 generalize medianAdjacent ltInt d k r2.2 = r3 at *
 have A4 := Lib.hid (fun (w2 : World) (h : SM w w2 blk off d wr.heap.size r3.2) => median_u (cap := cap) h hn B1.1 B2.1 B3.1 (by omega))
 generalize median ltInt d r1.1 r2.1 r3.1 r3.2 = r4 at *
 obtain ⟨p1, s1⟩ := r1
 obtain ⟨p2, s2⟩ := r2
 obtain ⟨p3, s3⟩ := r3
 obtain ⟨jj, ss⟩ := r4
 have hres1 : ss = 0 → choosePivot ltInt d a b = (jj, .increasing) := fun e => by rw [hres]; simp [e]
 have hres2 : ss ≠ 0 → ss = 12 → choosePivot ltInt d a b = (jj, .decreasing) := fun e e2 => by rw [hres]; simp [e2]
 have hres3 : ss ≠ 0 → ss ≠ 12 → choosePivot ltInt d a b = (jj, .unknown) := fun e e2 => by rw [hres]; simp [e, e2]
 have hsw : ss = 0 ∨ (ss ≠ 0 ∧ ss = 12) ∨ (ss ≠ 0 ∧ ss ≠ 12) := by omega
 clear hres hq hi hj hk hm B1 B2 B3 b1 hq2 hqb h
 go_enter Tryz.func216, Tryz.ntmps216
 go_wp2_with fail
 refine A1.out.mono ?_
 rintro _ w1 ⟨rfl, k1⟩
 have K1 := Lib.hid k1; clear k1 A1
 go_wp2_with fail
 refine (A2.out _ K1.out).mono ?_
 rintro _ w2 ⟨rfl, k2⟩
 have K2 := Lib.hid k2; clear k2 A2
 go_wp2_with fail
 refine (A3.out _ K2.out).mono ?_
 rintro _ w3 ⟨rfl, k3⟩
 have K3 := Lib.hid k3; clear k3 A3
 go_wp2_with fail
 refine (A4.out _ K3.out).mono ?_
 rintro _ w4 ⟨rfl, k4⟩
 have K4 := Lib.hid k4; clear k4 A4
 have c0 := K4.out.cnt.cell 0
 simp only [List.getElem?_cons_zero] at c0
 rcases hsw with h0 | ⟨h0, h12⟩ | ⟨h0, h12⟩
 {
 have t0 : ((ss : Int) == 0) = true := beq_iff_eq.2 (by omega)
 have HH := Lib.hid (hres1 h0); clear h0 hres1 hres2 hres3
 go_wp2
 go_ret2
 exact ⟨by rw [HH.out]; rfl, K4.out.sr⟩
 }
 {
 have t0 : ((ss : Int) == 0) = false := beq_eq_false_iff_ne.2 (by omega)
 have t1 : ((ss : Int) == 12) = true := beq_iff_eq.2 (by omega)
 have HH := Lib.hid (hres2 h0 h12); clear h0 h12 hres1 hres2 hres3
 go_wp2
 go_ret2
 exact ⟨by rw [HH.out]; rfl, K4.out.sr⟩
 }
 {
 have t0 : ((ss : Int) == 0) = false := beq_eq_false_iff_ne.2 (by omega)
 have t1 : ((ss : Int) == 12) = false := beq_eq_false_iff_ne.2 (by omega)
 have HH := Lib.hid (hres3 h0 h12); clear h0 h12 hres1 hres2 hres3
 go_wp2
 go_ret2
 exact ⟨by rw [HH.out]; rfl, K4.out.sr⟩
 }
 }
 {
 have hres := choose_mid d HQ.out (by omega) (by omega)
 rw [← hi, ← hj, ← hk] at hres
 have b1 : i < n ∧ j < n ∧ k < n := by have := hqb h8; omega
 have A4 := Lib.hid (median_u (cap := cap) K0.out hn b1.1 b1.2.1 b1.2.2 (by omega))
 generalize median ltInt d i j k 0 = r4 at *
 obtain ⟨jj, ss⟩ := r4
 have hres1 : ss = 0 → choosePivot ltInt d a b = (jj, .increasing) := fun e => by rw [hres]; simp [e]
 have hres2 : ss ≠ 0 → ss = 12 → choosePivot ltInt d a b = (jj, .decreasing) := fun e e2 => by rw [hres]; simp [e2]
 have hres3 : ss ≠ 0 → ss ≠ 12 → choosePivot ltInt d a b = (jj, .unknown) := fun e e2 => by rw [hres]; simp [e, e2]
 have hsw : ss = 0 ∨ (ss ≠ 0 ∧ ss = 12) ∨ (ss ≠ 0 ∧ ss ≠ 12) := by omega
 clear hres hq hi hj hk hm b1 hq2 hqb h
 go_enter Tryz.func216, Tryz.ntmps216
 go_wp2_with fail
 refine A4.out.mono ?_
 rintro _ w4 ⟨rfl, k4⟩
 have K4 := Lib.hid k4; clear k4 A4
 have c0 := K4.out.cnt.cell 0
 simp only [List.getElem?_cons_zero] at c0
 rcases hsw with h0 | ⟨h0, h12⟩ | ⟨h0, h12⟩
 {
 have t0 : ((ss : Int) == 0) = true := beq_iff_eq.2 (by omega)
 have HH := Lib.hid (hres1 h0); clear h0 hres1 hres2 hres3
 go_wp2
 go_ret2
 exact ⟨by rw [HH.out]; rfl, K4.out.sr⟩
 }
 {
 have t0 : ((ss : Int) == 0) = false := beq_eq_false_iff_ne.2 (by omega)
 have t1 : ((ss : Int) == 12) = true := beq_iff_eq.2 (by omega)
 have HH := Lib.hid (hres2 h0 h12); clear h0 h12 hres1 hres2 hres3
 go_wp2
 go_ret2
 exact ⟨by rw [HH.out]; rfl, K4.out.sr⟩
 }
 {
 have t0 : ((ss : Int) == 0) = false := beq_eq_false_iff_ne.2 (by omega)
 have t1 : ((ss : Int) == 12) = false := beq_eq_false_iff_ne.2 (by omega)
 have HH := Lib.hid (hres3 h0 h12); clear h0 h12 hres1 hres2 hres3
 go_wp2
 go_ret2
 exact ⟨by rw [HH.out]; rfl, K4.out.sr⟩
 }
 }
 }
 {
 have hres := choose_small d HQ.out (by omega)
 rw [← hj] at hres
 rw [hres]
 have c0 := K0.out.cnt.cell 0
 simp only [List.getElem?_cons_zero] at c0
 clear hres hq hi hj hk hm hq2 hqb h
 go_enter Tryz.func216, Tryz.ntmps216
 go_wp2
 go_ret2
 exact ⟨rfl, K0.out.sr⟩
 }
end Go.Proofs.YtgmnemndjjmgkaaGreat
