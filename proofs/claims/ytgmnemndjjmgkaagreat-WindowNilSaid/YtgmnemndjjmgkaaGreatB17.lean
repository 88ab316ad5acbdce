/- The heap: above, below, settle. -/
import Derived.Deep.RegionHeld3
import Derived.Test.YtgmnemndjjmgkaaGreatB16
import Derived.Test.YtgmnemndjjmgkaaGreatB8
import Derived.StillTailTactics
import Derived.Deep.Upon
import Derived.Deep.RegionLaw
set_option linter.unusedSimpArgs false
set_option linter.unusedVariables false
/- The heap in memory; order, place, put. -/
namespace Go.Proofs.YtgmnemndjjmgkaaGreat
open Go.RowKit
set_option maxRecDepth 10000
set_option maxHeartbeats 800000
abbrev hptr (b : Nat) : Value := .pointer (some ⟨b, 0, none⟩)
def optP (o : Option Nat) : Value := .pointer (o.map fun b => ⟨b, 0, none⟩)
def entC (n : Nat) (e : Nat → Nat × Int) : List Value := (List.range n).flatMap fun p => [.int .i64 (e p).1, .int .i64 (e p).2]
theorem entC_succ' (n : Nat) (e : Nat → Nat × Int) : entC (n + 1) e = entC n e ++ [.int .i64 (e n).1, .int .i64 (e n).2] := by simp [entC, List.range_succ]
theorem entC_len (n : Nat) (e : Nat → Nat × Int) : (entC n e).length = n * 2 := by
 induction n with
 | zero => rfl
 | succ n ih => rw [entC_succ', List.length_append, ih]; simp; omega
theorem entC_at (e : Nat → Nat × Int) : ∀ {n p : Nat}, p < n → (entC n e)[p * 2]? = some (.int .i64 ((e p).1 : Int)) ∧ (entC n e)[p * 2 + 1]? = some (.int .i64 (e p).2) := by
 intro n
 induction n with
 | zero => intro p h; omega
 | succ n ih => {
 intro p hp
 rw [entC_succ']
 have hl := entC_len n e
 by_cases h : p < n
 · rw [List.getElem?_append_left (by omega), List.getElem?_append_left (by omega)]; exact ih h
 {
 obtain rfl : p = n := by omega
 rw [List.getElem?_append_right (by omega), List.getElem?_append_right (by omega), hl]
 simp
 }
 }
theorem entC_congr {n : Nat} {e e' : Nat → Nat × Int} (h : ∀ p, p < n → e p = e' p) : entC n e = entC n e' := by
 induction n with
 | zero => rfl
 | succ n ih => rw [entC_succ', entC_succ', ih (fun p hp => h p (by omega)), h n (by omega)]
theorem entC_push (n : Nat) (e : Nat → Nat × Int) (x : Nat × Int) : entC n e ++ [.int .i64 x.1, .int .i64 x.2] = entC (n + 1) (updE e n x) := by
 rw [entC_succ', updE_same, entC_congr (n := n) (e := updE e n x) (e' := e) (fun p hp => updE_other (by omega))]
theorem entC_set {n p : Nat} (hp : p < n) (e : Nat → Nat × Int) (x : Nat × Int) : ((entC n e).set (p * 2) (.int .i64 x.1)).set (p * 2 + 1) (.int .i64 x.2) = entC n (updE e p x) := by
 apply List.ext_getElem?
 intro j
 have hl := entC_len n e
 have hl' := entC_len n (updE e p x)
 by_cases hj : j < n * 2
 {
 have hj2 : j / 2 < n := by omega
 have h0 := entC_at (updE e p x) hj2
 have h1 := entC_at e hj2
 rcases (show j = j / 2 * 2 ∨ j = j / 2 * 2 + 1 by omega) with e1 | e1
 {
 generalize j / 2 = k at *
 subst e1
 rw [h0.1, List.getElem?_set_ne (by omega)]
 by_cases hk : k = p
 · subst hk; rw [List.getElem?_set_self (by omega), updE_same]
 · rw [List.getElem?_set_ne (by omega), h1.1, updE_other hk]
 }
 {
 generalize j / 2 = k at *
 subst e1
 rw [h0.2]
 by_cases hk : k = p
 · subst hk; rw [List.getElem?_set_self (by simp; omega), updE_same]
 · rw [List.getElem?_set_ne (by omega), List.getElem?_set_ne (by omega), h1.2, updE_other hk]
 }
 }
 · rw [List.getElem?_eq_none (by simp; omega), List.getElem?_eq_none (by omega)]
theorem ent_at {w : World} {v : Value} {n : Nat} {e : Nat → Nat × Int} (h : w.ownsRow 0 136 2 v n (entC n e)) {p : Nat} (hp : p < n) : ∃ b cap, v = .slice (some ⟨b, 0, none⟩) n cap ∧ n ≤ cap ∧ b < w.heap.size ∧
    w.cell? ⟨b, p * 2, none⟩ = some (.int .i64 ((e p).1 : Int)) ∧ w.cell? ⟨b, p * 2 + 1, none⟩ = some (.int .i64 (e p).2) ∧ ∀ j, w.frozen? ⟨b, j, none⟩ = false := by
 obtain ⟨h1, h2⟩ := h
 rcases h2 with ⟨rfl, h0⟩ | ⟨g, cap, cur, rfl, _, hh, hn, hm, hsz, hxs⟩
 · omega
 {
 refine ⟨g, cap, rfl, hn, (Array.getElem?_eq_some_iff.1 hh).1, ?_, ?_, fun j => by simp [World.frozen?, hh]⟩
 all_goals
  have key : ∀ j, j < 2 → cur[p * 2 + j]? = (entC n e)[p * 2 + j]? := by {
  intro j hj
  rw [← hxs, List.getElem?_take, if_pos (by omega)]
  simp
  }
  simp only [World.cell?, hh]
  simp
 · have := key 0 (by omega); simp at this; rw [this]; exact (entC_at e hp).1
 · rw [key 1 (by omega)]; exact (entC_at e hp).2
 }
theorem ownsRow_setK {w : World} {e : TypeId} {size g n cap i : Nat} {xs : List Value} (h : w.ownsRow 0 e size (.slice (some ⟨g, 0, none⟩) n cap) n xs) (u : Value) :
    (w.setCell ⟨g, i, none⟩ u).ownsRow 0 e size (.slice (some ⟨g, 0, none⟩) n cap) n (xs.set i u) := by
 obtain ⟨h1, h2⟩ := h
 refine ⟨by simpa using h1, ?_⟩
 rcases h2 with ⟨h2, _⟩ | ⟨g', cap', cur, e1, _, hh, hn, hm, hsz, hxs⟩
 · cases h2
 {
 simp only [Value.slice.injEq, Option.some.injEq, Addr.mk.injEq, and_true, true_and] at e1
 obtain ⟨rfl, rfl⟩ := e1
 refine .inr ⟨g, cap, cur.setIfInBounds i u, rfl, Nat.zero_le _, ?_, hn, hm, by simpa using hsz, ?_⟩
 {
 simp only [World.setCell, Array.getElem?_modify]
 simp [hh]
 }
 · rw [← hxs, Array.toList_setIfInBounds, List.take_set]
 }
def blkC (pl : Nat → Nat) (k : Nat) : List Value := (List.range 64).map fun j => .int .i64 ((pl (k * 64 + j) : Nat) : Int)
theorem blkC_at (pl : Nat → Nat) (k : Nat) {j : Nat} (hj : j < 64) : (blkC pl k)[j]? = some (.int .i64 ((pl (k * 64 + j) : Nat) : Int)) := by simp [blkC, hj]
theorem blkC_congr {pl pl' : Nat → Nat} {k : Nat} (h : ∀ j, j < 64 → pl (k * 64 + j) = pl' (k * 64 + j)) : blkC pl k = blkC pl' k := by
 apply List.map_congr_left
 intro j hj
 rw [h j (by simpa using hj)]
theorem blkC_set (pl : Nat → Nat) (k x : Nat) {j : Nat} (hj : j < 64) : (blkC pl k).set j (.int .i64 (x : Int)) = blkC (updP pl (k * 64 + j) x) k := by
 apply List.ext_getElem?
 intro i
 by_cases hi : i < 64
 {
 rw [blkC_at _ k hi]
 by_cases e : i = j
 · subst e; rw [List.getElem?_set_self (by simp [blkC, hi]), updP_same]
 · rw [List.getElem?_set_ne (by omega), blkC_at _ k hi, updP_other (by omega)]
 }
 · rw [List.getElem?_eq_none (by simp [blkC]; omega), List.getElem?_eq_none (by simp [blkC]; omega)]
structure HM (w : World) (ph slots n : Nat) (e : Nat → Nat × Int) (pl : Nat → Nat) (v : Value) (gp cp : Nat) (bs : Nat → Option Nat) : Prop where
  hd : Blk w ph 217 [hptr ph, .int .i64 slots, v, .slice (some ⟨gp, 0, none⟩) ((slots + 63) / 64) cp]
  items : w.ownsRow 0 136 2 v n (entC n e)
  dir : Blk w gp 219 ((List.range ((slots + 63) / 64)).map fun k => optP (bs k))
  some_ : ∀ k b, k < (slots + 63) / 64 → bs k = some b → Blk w b 221 (blkC pl k)
  none_ : ∀ k, k < (slots + 63) / 64 → bs k = none → ∀ j, j < 64 → pl (k * 64 + j) = 0
  le : slots ≤ 65536
  nb : n ≤ 65536
  pb : ∀ i, pl i ≤ 65536
  ap1 : ph ≠ gp
  ap2 : v.ownBlock ≠ some ph
  ap3 : v.ownBlock ≠ some gp
  ap4 : ∀ k b, k < (slots + 63) / 64 → bs k = some b → b ≠ ph ∧ b ≠ gp ∧ v.ownBlock ≠ some b
  ap5 : ∀ k k' b, k < (slots + 63) / 64 → k' < (slots + 63) / 64 → bs k = some b → bs k' = some b → k = k'
def hB (slots ph : Nat) (v : Value) (gp : Nat) (bs : Nat → Option Nat) : List Nat := ph :: gp :: (v.ownBlock.toList ++ (List.range ((slots + 63) / 64)).filterMap bs)
theorem mem_hB {slots ph : Nat} {v : Value} {gp : Nat} {bs : Nat → Option Nat} {b : Nat} : b ∈ hB slots ph v gp bs ↔ b = ph ∨ b = gp ∨ v.ownBlock = some b ∨ ∃ k, k < (slots + 63) / 64 ∧ bs k = some b := by
 simp [hB]
section
variable {w w' : World} {ph slots n : Nat} {e : Nat → Nat × Int} {pl : Nat → Nat} {v : Value} {gp cp : Nat} {bs : Nat → Option Nat}
theorem HM.fr {S : List Nat} (h : HM w ph slots n e pl v gp cp bs) (hf : Fr S w w') (hs : ∀ b ∈ hB slots ph v gp bs, b ∉ S) : HM w' ph slots n e pl v gp cp bs :=
  ⟨hf.blk h.hd (hs _ (by simp [hB])), ownsRow_same h.items (fun q hq => hf.keep q (h.items.lt q hq).2 (hs q (mem_hB.2 (.inr (.inr (.inl hq)))))), hf.blk h.dir (hs _ (by simp [hB])),
    fun k b hk hb => hf.blk (h.some_ k b hk hb) (hs b (mem_hB.2 (.inr (.inr (.inr ⟨k, hk, hb⟩))))), h.none_, h.le, h.nb, h.pb, h.ap1, h.ap2, h.ap3, h.ap4, h.ap5⟩
theorem HM.fr0 (h : HM w ph slots n e pl v gp cp bs) (hf : Fr [] w w') : HM w' ph slots n e pl v gp cp bs := h.fr hf (by simp)
theorem HM.lt (h : HM w ph slots n e pl v gp cp bs) : ∀ b ∈ hB slots ph v gp bs, b < w.heap.size := by
 intro b hb
 rcases mem_hB.1 hb with rfl | rfl | hb | ⟨k, hk, hb⟩
 · exact h.hd.lt
 · exact h.dir.lt
 · exact (h.items.lt b hb).2
 · exact (h.some_ k b hk hb).lt
def cmpI (x y : Int) : Int := if x < y then -1 else if y < x then 1 else 0
def ordI (a b : Nat × Int) : Int := if cmpI a.2 b.2 = 0 then cmpI a.1 b.1 else cmpI a.2 b.2
theorem ordI_lt (a b : Nat × Int) : ordI a b < 0 ↔ elt a b := by
 unfold ordI cmpI elt
 split <;> split <;> (try split) <;> (try split) <;> omega
theorem nan64_w (x : Int) (w : World) : Calls Tryz.prog 233 #[.int .i64 x] w fun e w' => e = .returned (.bool false) ∧ w' = w := by
 have hb : (x != x) = false := by simp
 go_enter Tryz.func233, Tryz.ntmps233
 go_wp2
 go_ret
 exact ⟨rfl, rfl⟩
theorem nan_w (x : Int) (w : World) : Calls Tryz.prog 234 #[.int .i64 x] w fun e w' => e = .returned (.bool false) ∧ w' = w := by
 have hb : (x != x) = false := by simp
 go_enter Tryz.func234, Tryz.ntmps234
 go_wp2
 go_ret
 exact ⟨rfl, rfl⟩
theorem cmp64_w (x y : Int) (w : World) : Calls Tryz.prog 230 #[.int .i64 x, .int .i64 y] w fun e w' => e = .returned (.int .i64 (cmpI x y)) ∧ w' = w := by
 by_cases h1 : x < y
 {
 have e1 : cmpI x y = -1 := by unfold cmpI; rw [if_pos h1]
 rw [e1]; clear e1
 go_enter Tryz.func230, Tryz.ntmps230
 go_wp2_with (go_at_call 233; refine (nan64_w _ _).mono ?_; rintro e w' ⟨rfl, rfl⟩)
 go_ret
 exact ⟨rfl, rfl⟩
 }
 {
 by_cases h2 : y < x
 {
 have e1 : cmpI x y = 1 := by unfold cmpI; rw [if_neg h1, if_pos h2]
 rw [e1]; clear e1
 go_enter Tryz.func230, Tryz.ntmps230
 go_wp2_with (go_at_call 233; refine (nan64_w _ _).mono ?_; rintro e w' ⟨rfl, rfl⟩)
 go_ret
 exact ⟨rfl, rfl⟩
 }
 {
 have e1 : cmpI x y = 0 := by unfold cmpI; rw [if_neg h1, if_neg h2]
 rw [e1]; clear e1
 go_enter Tryz.func230, Tryz.ntmps230
 go_wp2_with (go_at_call 233; refine (nan64_w _ _).mono ?_; rintro e w' ⟨rfl, rfl⟩)
 go_ret
 exact ⟨rfl, rfl⟩
 }
 }
theorem cmp_w (x y : Nat) (w : World) : Calls Tryz.prog 231 #[.int .i64 x, .int .i64 y] w fun e w' => e = .returned (.int .i64 (cmpI x y)) ∧ w' = w := by
 by_cases h1 : x < y
 {
 have e1 : cmpI x y = -1 := by unfold cmpI; rw [if_pos (by omega)]
 rw [e1]; clear e1
 go_enter Tryz.func231, Tryz.ntmps231
 go_wp2_with (go_at_call 234; refine (nan_w _ _).mono ?_; rintro e w' ⟨rfl, rfl⟩)
 go_ret
 exact ⟨rfl, rfl⟩
 }
 {
 by_cases h2 : y < x
 {
 have e1 : cmpI x y = 1 := by unfold cmpI; rw [if_neg (by omega), if_pos (by omega)]
 rw [e1]; clear e1
 go_enter Tryz.func231, Tryz.ntmps231
 go_wp2_with (go_at_call 234; refine (nan_w _ _).mono ?_; rintro e w' ⟨rfl, rfl⟩)
 go_ret
 exact ⟨rfl, rfl⟩
 }
 {
 have e1 : cmpI x y = 0 := by unfold cmpI; rw [if_neg (by omega), if_neg (by omega)]
 rw [e1]; clear e1
 go_enter Tryz.func231, Tryz.ntmps231
 go_wp2_with (go_at_call 234; refine (nan_w _ _).mono ?_; rintro e w' ⟨rfl, rfl⟩)
 go_ret
 exact ⟨rfl, rfl⟩
 }
 }
theorem or_w (b : Nat) (x y : Int) (w : World) (h : Blk w b 3 [.int .i64 x, .int .i64 y]) : Calls Tryz.prog 229 #[.slice (some ⟨b, 0, none⟩) 2 2] w fun e w' => e = .returned (.int .i64 (if x = 0 then y else x)) ∧ w' = w := by
 have c0 := h.cell 0
 have c1 := h.cell 1
 simp only [List.getElem?_cons_zero, List.getElem?_cons_succ] at c0 c1
 generalize hr : (if x = 0 then y else x) = r
 have HR := Lib.hid hr; clear hr
 go_enter Tryz.func229, Tryz.ntmps229
 go_wp2
 go_loop [8] (fun s => ∃ k : Nat, k ≤ 2 ∧ s = .int .i64 k ∧ Hid ((1 ≤ k → x = 0) ∧ (2 ≤ k → y = 0))) (fun s => 2 - (intOf s).toNat)
 case atStart => exact ⟨0, by omega, rfl, Lib.hid ⟨by omega, by omega⟩⟩
 case round =>
  obtain ⟨k, hk, rfl, HK⟩ := hrel
  rcases (show k = 0 ∨ k = 1 ∨ k = 2 by omega) with rfl | rfl | rfl
  {
  by_cases hx : x = 0
  {
  subst hx
  go_wp2
  go_round
  case rel => exact ⟨1, by omega, by go_num, Lib.hid ⟨by simp, by omega⟩⟩
  case measure => simp [intOf]
  }
  {
  have hb : (x != 0) = true := by simp [hx]
  have hR2 : r = x := by rw [← HR.out, if_neg hx]
  have HR2 := Lib.hid hR2; clear hR2 hx
  go_wp2
  go_ret
  exact ⟨by rw [HR2.out]; rfl, rfl⟩
  }
  }
  {
  have hx := HK.out.1 (by omega)
  by_cases hy : y = 0
  {
  subst hy
  have Hx := Lib.hid hx; clear hx
  go_wp2
  go_round
  case rel => exact ⟨2, by omega, by go_num, Lib.hid ⟨fun _ => Hx.out, by simp⟩⟩
  case measure => simp [intOf]
  }
  {
  have hb : (y != 0) = true := by simp [hy]
  have hR2 : r = y := by rw [← HR.out, if_pos hx]
  have HR2 := Lib.hid hR2; clear hR2 hx hy
  go_wp2
  go_ret
  exact ⟨by rw [HR2.out]; rfl, rfl⟩
  }
  }
  {
  have hx := HK.out.1 (by omega)
  have hy := HK.out.2 (by omega)
  have hR2 : r = 0 := by rw [← HR.out, if_pos hx, hy]
  have HR2 := Lib.hid hR2; clear hR2 hx hy
  go_wp2
  go_ret
  exact ⟨by rw [HR2.out]; rfl, rfl⟩
  }
theorem order_w (a b : Nat × Int) (w : World) : Calls Tryz.prog 224 #[.agg #[.int .i64 a.1, .int .i64 a.2], .agg #[.int .i64 b.1, .int .i64 b.2]] w fun e w' => e = .returned (.int .i64 (ordI a b)) ∧ Fr [] w w' := by
 obtain ⟨a1, a2⟩ := a
 obtain ⟨b1, b2⟩ := b
 have hr : (if cmpI a2 b2 = 0 then cmpI a1 b1 else cmpI a2 b2) = ordI (a1, a2) (b1, b2) := rfl
 have HO := Lib.hid (fun (W : World) (n : Nat) (h : Blk W n 3 [.int .i64 (cmpI a2 b2), .int .i64 (cmpI a1 b1)]) => or_w n (cmpI a2 b2) (cmpI a1 b1) W h)
 rw [hr] at HO
 have HC1 := Lib.hid (fun w => cmp64_w a2 b2 w)
 have HC2 := Lib.hid (fun w => cmp_w a1 b1 w)
 clear hr
 generalize ordI (a1, a2) (b1, b2) = r at *
 generalize cmpI a2 b2 = x at *
 generalize cmpI a1 b1 = y at *
 have e1 := Blk.new w [.int .i64 a1, .int .i64 a2] 136
 have e2 := Blk.new (w.alloc (.cells [.int .i64 a1, .int .i64 a2].toArray 136)) [.int .i64 b1, .int .i64 b2] 136
 have e1' := e1.alloc (.cells [.int .i64 b1, .int .i64 b2].toArray 136)
 simp only [World.size_alloc] at e2
 have hF : Fr [] w ((w.alloc (.cells [.int .i64 a1, .int .i64 a2].toArray 136)).alloc (.cells [.int .i64 b1, .int .i64 b2].toArray 136)) := ((Fr.refl _ _).alloc _).alloc _
 have x0 := e1'.cell 0
 have x1 := e1'.cell 1
 have y0 := e2.cell 0
 have y1 := e2.cell 1
 simp only [List.getElem?_cons_zero, List.getElem?_cons_succ] at x0 x1 y0 y1
 clear e1 e2 e1'
 have HF := Lib.hid hF; clear hF
 go_enter Tryz.func224, Tryz.ntmps224
 go_wp2
 generalize hw0 : ((w.alloc (.cells #[.int .i64 a1, .int .i64 a2] 136)).alloc (.cells #[.int .i64 b1, .int .i64 b2] 136)) = w0 at *
 clear hw0
 go_region_held3 (fun w' => w'.cell? ⟨w.heap.size, 0, none⟩ = some (.int .i64 a1) ∧ w'.cell? ⟨w.heap.size, 1, none⟩ = some (.int .i64 a2) ∧ w'.cell? ⟨w.heap.size + 1, 0, none⟩ = some (.int .i64 b1) ∧ w'.cell? ⟨w.heap.size + 1, 1, none⟩ = some (.int .i64 b2))
   (first | go_keep)
   (first
     | (go_at_call 230; refine (HC1.out _).mono ?_; rintro e w' ⟨rfl, rfl⟩)
     | (go_at_call 231; refine (HC2.out _).mono ?_; rintro e w' ⟨rfl, rfl⟩)
     | (go_at_call 229; refine (HO.out _ _ ((Blk.new w0 _ _).drew)).mono ?_; rintro e w' ⟨rfl, rfl⟩))
 go_wp2
 go_ret
 exact ⟨rfl, (HF.out.alloc _).drew⟩
@[go_sem] theorem heap_eql (w : World) (a : Addr) : (binOp .eql 122 (.pointer (some a)) (.pointer (some a))).run Tryz.prog w = .ok (.bool true) w := by
 obtain ⟨j, hj⟩ := Option.isSome_iff_exists.1 (show (Tryz.prog.info? 217).isSome = true by kernel_rfl)
 exact run_eql_ptr_same w a Tryz.underlying122 hj
theorem hvalid_w (h : HM w ph slots n e pl v gp cp bs) : Calls Tryz.prog 150 #[.pointer (some ⟨ph, 0, none⟩)] w fun e' w' => e' = .returned (.bool true) ∧ w' = w := by
 have c0 : w.cell? ⟨ph, 0, none⟩ = some (.pointer (some ⟨ph, 0, none⟩)) := h.hd.cell 0
 clear h
 go_enter Tryz.func150, Tryz.ntmps150
 go_wp2
 go_ret
 exact ⟨rfl, rfl⟩
theorem hhas_w (h : HM w ph slots n e pl v gp cp bs) {i : Nat} (hi : i < slots) : Calls Tryz.prog 195 #[hptr ph, .int .i64 i] w fun e' w' => e' = .returned (.bool true) ∧ w' = w := by
 have c1 := h.hd.cell 1
 simp only [List.getElem?_cons_zero, List.getElem?_cons_succ] at c1
 have t1 : decide (i < slots) = true := decide_eq_true hi
 have hi' : (i : Int) < slots := by omega
 have hi0 : (0 : Int) ≤ i := by omega
 clear h
 go_enter Tryz.func195, Tryz.ntmps195
 go_wp2
 go_ret
 exact ⟨rfl, rfl⟩
end
end Go.Proofs.YtgmnemndjjmgkaaGreat

/- The heap: place, put, swap. -/
namespace Go.Proofs.YtgmnemndjjmgkaaGreat
open Go.RowKit
set_option maxRecDepth 10000
set_option maxHeartbeats 800000
section
variable {w w' : World} {ph slots n : Nat} {e : Nat → Nat × Int} {pl : Nat → Nat} {v : Value} {gp cp : Nat} {bs : Nat → Option Nat}
theorem HM.dirAt (h : HM w ph slots n e pl v gp cp bs) {k : Nat} (hk : k < (slots + 63) / 64) : w.cell? ⟨gp, k, none⟩ = some (optP (bs k)) := by
 rw [h.dir.cell]; simp [hk]
theorem place_w (h : HM w ph slots n e pl v gp cp bs) {i : Nat} (hi : i < slots) :
    Calls Tryz.prog 196 #[hptr ph, .int .i64 i] w fun e w' => e = .returned (.int .i64 ((pl i : Int) - 1)) ∧ w' = w := by
 have hle := h.le
 have hk : i / 64 < (slots + 63) / 64 := by omega
 have c3 := h.hd.cell 3
 simp only [List.getElem?_cons_zero, List.getElem?_cons_succ] at c3
 have hd := h.dirAt hk
 have hm : i = i / 64 * 64 + i % 64 := by omega
 have hi6 : i < 65536 := by omega
 cases hb : bs (i / 64) with
 | none => {
 rw [hb] at hd
 have h0 := h.none_ _ hk hb (i % 64) (by omega)
 rw [← hm] at h0
 rw [h0]
 simp only [optP, Option.map_none] at hd
 clear hm h0 h hb hle
 generalize (slots + 63) / 64 = m at *
 go_enter Tryz.func196, Tryz.ntmps196
 go_wp2
 go_ret
 exact ⟨rfl, rfl⟩
 }
 | some b => {
 rw [hb] at hd
 have h0 := (h.some_ _ _ hk hb).cell (i % 64)
 rw [blkC_at pl (i / 64) (by omega), ← hm] at h0
 simp only [optP, Option.map_some] at hd
 have hpl : (0 : Int) ≤ pl i := by omega
 have hx := h.pb i
 clear hm h hb hle
 generalize (slots + 63) / 64 = m at *
 generalize pl i = x at *
 go_enter Tryz.func196, Tryz.ntmps196
 go_wp2
 go_ret
 exact ⟨rfl, rfl⟩
 }
theorem blkC_zero {pl : Nat → Nat} {k : Nat} (h : ∀ j, j < 64 → pl (k * 64 + j) = 0) : blkC pl k = List.replicate 64 (.int .i64 0) := by
 apply List.ext_getElem?
 intro j
 by_cases hj : j < 64
 · rw [blkC_at pl k hj, h j hj, List.getElem?_replicate, if_pos hj]; rfl
 · rw [List.getElem?_eq_none (by simp [blkC]; omega), List.getElem?_eq_none (by rw [List.length_replicate]; omega)]
def updB (bs : Nat → Option Nat) (k b : Nat) : Nat → Option Nat := fun x => if x = k then some b else bs x
theorem updB_same (bs : Nat → Option Nat) (k b : Nat) : updB bs k b k = some b := by simp [updB]
theorem updB_other {bs : Nat → Option Nat} {k b x : Nat} (h : x ≠ k) : updB bs k b x = bs x := by simp [updB, h]
theorem HM.note (h : HM w ph slots n e pl v gp cp bs) {i x b : Nat} (hi : i < slots) (hb : bs (i / 64) = some b) (hx : x ≤ 65536) :
    HM (w.setCell ⟨b, i % 64, none⟩ (.int .i64 (x : Int))) ph slots n e (updP pl i x) v gp cp bs := by
 have hk : i / 64 < (slots + 63) / 64 := by omega
 have hm : i = i / 64 * 64 + i % 64 := by omega
 obtain ⟨a1, a2, a3⟩ := h.ap4 _ _ hk hb
 refine ⟨h.hd.other _ _ (fun e => a1 e.symm), ownsRow_other h.items _ _ a3, h.dir.other _ _ (fun e => a2 e.symm), fun k b' hk' hb' => ?_, fun k hk' hb' j hj => ?_, h.le, h.nb, fun j => ?_, h.ap1, h.ap2, h.ap3, h.ap4, h.ap5⟩
 {
 by_cases e1 : k = i / 64
 {
 subst e1
 rw [hb] at hb'; cases hb'
 have := (h.some_ _ _ hk hb).set (i % 64) (.int .i64 (x : Int))
 rw [blkC_set pl (i / 64) x (by omega), ← hm] at this
 exact this
 }
 {
 have := (h.some_ _ _ hk' hb').other ⟨b, i % 64, none⟩ (.int .i64 (x : Int)) (fun e => e1 (h.ap5 _ _ _ hk' hk hb' (by rw [hb]; exact congrArg some e.symm)))
 rw [blkC_congr (pl := pl) (pl' := updP pl i x) (k := k) (fun j hj => (updP_other (by omega)).symm)] at this
 exact this
 }
 }
 {
 have e1 : k ≠ i / 64 := by rintro rfl; rw [hb] at hb'; cases hb'
 rw [updP_other (by omega)]
 exact h.none_ k hk' hb' j hj
 }
 {
 unfold updP; split
 · exact hx
 · exact h.pb j
 }
theorem HM.more (h : HM w ph slots n e pl v gp cp bs) {k b : Nat} (hk : k < (slots + 63) / 64) (hb : bs k = none) (hw : w.heap.size = b) :
    HM ((w.alloc (.cells #[.int .i64 0, .int .i64 0, .int .i64 0, .int .i64 0, .int .i64 0, .int .i64 0, .int .i64 0, .int .i64 0, .int .i64 0, .int .i64 0, .int .i64 0, .int .i64 0, .int .i64 0, .int .i64 0, .int .i64 0, .int .i64 0, .int .i64 0, .int .i64 0, .int .i64 0, .int .i64 0, .int .i64 0, .int .i64 0, .int .i64 0, .int .i64 0, .int .i64 0, .int .i64 0, .int .i64 0, .int .i64 0, .int .i64 0, .int .i64 0, .int .i64 0, .int .i64 0, .int .i64 0, .int .i64 0, .int .i64 0, .int .i64 0, .int .i64 0, .int .i64 0, .int .i64 0, .int .i64 0, .int .i64 0, .int .i64 0, .int .i64 0, .int .i64 0, .int .i64 0, .int .i64 0, .int .i64 0, .int .i64 0, .int .i64 0, .int .i64 0, .int .i64 0, .int .i64 0, .int .i64 0, .int .i64 0, .int .i64 0, .int .i64 0, .int .i64 0, .int .i64 0, .int .i64 0, .int .i64 0, .int .i64 0, .int .i64 0, .int .i64 0, .int .i64 0] 221)).setCell ⟨gp, k, none⟩ (hptr b)) ph slots n e pl v gp cp (updB bs k b) := by
 subst hw
 have h1 := h.fr0 ((Fr.refl [] w).alloc (.cells #[.int .i64 0, .int .i64 0, .int .i64 0, .int .i64 0, .int .i64 0, .int .i64 0, .int .i64 0, .int .i64 0, .int .i64 0, .int .i64 0, .int .i64 0, .int .i64 0, .int .i64 0, .int .i64 0, .int .i64 0, .int .i64 0, .int .i64 0, .int .i64 0, .int .i64 0, .int .i64 0, .int .i64 0, .int .i64 0, .int .i64 0, .int .i64 0, .int .i64 0, .int .i64 0, .int .i64 0, .int .i64 0, .int .i64 0, .int .i64 0, .int .i64 0, .int .i64 0, .int .i64 0, .int .i64 0, .int .i64 0, .int .i64 0, .int .i64 0, .int .i64 0, .int .i64 0, .int .i64 0, .int .i64 0, .int .i64 0, .int .i64 0, .int .i64 0, .int .i64 0, .int .i64 0, .int .i64 0, .int .i64 0, .int .i64 0, .int .i64 0, .int .i64 0, .int .i64 0, .int .i64 0, .int .i64 0, .int .i64 0, .int .i64 0, .int .i64 0, .int .i64 0, .int .i64 0, .int .i64 0, .int .i64 0, .int .i64 0, .int .i64 0, .int .i64 0] 221))
 have hlt := h.lt
 have hnew := Blk.new w (blkC pl k) 221
 rw [blkC_zero (h.none_ k hk hb)] at hnew
 have e0 : (List.replicate 64 (Value.int .i64 0)).toArray = (#[.int .i64 0, .int .i64 0, .int .i64 0, .int .i64 0, .int .i64 0, .int .i64 0, .int .i64 0, .int .i64 0, .int .i64 0, .int .i64 0, .int .i64 0, .int .i64 0, .int .i64 0, .int .i64 0, .int .i64 0, .int .i64 0, .int .i64 0, .int .i64 0, .int .i64 0, .int .i64 0, .int .i64 0, .int .i64 0, .int .i64 0, .int .i64 0, .int .i64 0, .int .i64 0, .int .i64 0, .int .i64 0, .int .i64 0, .int .i64 0, .int .i64 0, .int .i64 0, .int .i64 0, .int .i64 0, .int .i64 0, .int .i64 0, .int .i64 0, .int .i64 0, .int .i64 0, .int .i64 0, .int .i64 0, .int .i64 0, .int .i64 0, .int .i64 0, .int .i64 0, .int .i64 0, .int .i64 0, .int .i64 0, .int .i64 0, .int .i64 0, .int .i64 0, .int .i64 0, .int .i64 0, .int .i64 0, .int .i64 0, .int .i64 0, .int .i64 0, .int .i64 0, .int .i64 0, .int .i64 0, .int .i64 0, .int .i64 0, .int .i64 0, .int .i64 0] : Array Value) := rfl
 rw [e0] at hnew
 have hgl := h.dir.lt
 have hpl := h.hd.lt
 refine ⟨h1.hd.other _ _ h.ap1, ownsRow_other h1.items _ _ h.ap3, ?_, fun j b' hj hb' => ?_, fun j hj hb' => ?_, h.le, h.nb, h.pb, h.ap1, h.ap2, h.ap3, fun j b' hj hb' => ?_, fun j j' b' hj hj' hb' hb2 => ?_⟩
 {
 have := h1.dir.set k (hptr w.heap.size)
 have e1 : ((List.range ((slots + 63) / 64)).map fun x => optP (bs x)).set k (hptr w.heap.size) = (List.range ((slots + 63) / 64)).map fun x => optP (updB bs k w.heap.size x) := by {
 apply List.ext_getElem?
 intro j
 by_cases hj : j < (slots + 63) / 64
 {
 by_cases e2 : j = k
 · subst e2; rw [List.getElem?_set_self (by simpa using hj)]; simp [hj, updB_same, optP]
 · rw [List.getElem?_set_ne (by omega)]; simp [hj, updB_other e2]
 }
 · rw [List.getElem?_eq_none (by simp; omega), List.getElem?_eq_none (by simp; omega)]
 }
 rw [e1] at this; exact this
 }
 {
 by_cases e2 : j = k
 {
 subst e2
 rw [updB_same] at hb'; cases hb'
 rw [blkC_zero (h.none_ j hk hb)]
 exact hnew.other _ _ (by simp; omega)
 }
 {
 rw [updB_other e2] at hb'
 exact (h1.some_ j b' hj hb').other _ _ (h.ap4 j b' hj hb').2.1
 }
 }
 {
 have e2 : j ≠ k := by rintro rfl; rw [updB_same] at hb'; cases hb'
 rw [updB_other e2] at hb'
 exact h.none_ j hj hb'
 }
 {
 by_cases e2 : j = k
 {
 subst e2
 rw [updB_same] at hb'; cases hb'
 refine ⟨by omega, by omega, fun e3 => ?_⟩
 have := (h.items.lt _ e3).2; omega
 }
 · rw [updB_other e2] at hb'; exact h.ap4 j b' hj hb'
 }
 {
 by_cases e2 : j = k
 {
 by_cases e3 : j' = k
 · omega
 {
 rw [updB_other e3] at hb2
 subst e2; rw [updB_same] at hb'; cases hb'
 have := (h.some_ j' _ hj' hb2).lt; omega
 }
 }
 {
 rw [updB_other e2] at hb'
 by_cases e3 : j' = k
 {
 subst e3; rw [updB_same] at hb2; cases hb2
 have := (h.some_ j _ hj hb').lt; omega
 }
 {
 rw [updB_other e3] at hb2
 exact h.ap5 j j' b' hj hj' hb' hb2
 }
 }
 }
theorem hB_more {k b : Nat} : ∀ q ∈ hB slots ph v gp (updB bs k b), q ∈ hB slots ph v gp bs ∨ q = b := by
 intro q hq
 rcases mem_hB.1 hq with h | h | h | ⟨j, hj, h⟩
 · exact .inl (mem_hB.2 (.inl h))
 · exact .inl (mem_hB.2 (.inr (.inl h)))
 · exact .inl (mem_hB.2 (.inr (.inr (.inl h))))
 {
 by_cases e : j = k
 · subst e; rw [updB_same] at h; cases h; exact .inr rfl
 · rw [updB_other e] at h; exact .inl (mem_hB.2 (.inr (.inr (.inr ⟨j, hj, h⟩))))
 }
theorem put_w (h : HM w ph slots n e pl v gp cp bs) {i x : Nat} (hi : i < slots) (hx : x ≤ 65536) (p : Int) (hp : p + 1 = x) :
    Calls Tryz.prog 176 #[hptr ph, .int .i64 i, .int .i64 p] w fun e' w' => e' = .returned (.tuple #[]) ∧ ∃ bs', HM w' ph slots n e (updP pl i x) v gp cp bs' ∧ Fr (hB slots ph v gp bs) w w' ∧ ∀ q ∈ hB slots ph v gp bs', q ∈ hB slots ph v gp bs ∨ w.heap.size ≤ q := by
 have hle := h.le
 have hk : i / 64 < (slots + 63) / 64 := by omega
 have c3 := h.hd.cell 3
 simp only [List.getElem?_cons_zero, List.getElem?_cons_succ] at c3
 have hd := h.dirAt hk
 have hi6 : i < 65536 := by omega
 have hgz := h.dir.frozen (i / 64)
 have HX : Hid (.int .i64 (p + 1) = (.int .i64 (x : Int) : Value)) := Lib.hid (by rw [hp])
 have hp2 : p < 9223372036854775807 := by omega
 have hp1 : -9223372036854775808 ≤ p := by omega
 clear hp
 cases hb : bs (i / 64) with
 | some b => {
 rw [hb] at hd
 simp only [optP, Option.map_some] at hd
 have h0 := (h.some_ _ _ hk hb).cell (i % 64)
 have hz := (h.some_ _ _ hk hb).frozen (i % 64)
 rw [blkC_at pl (i / 64) (by omega)] at h0
 have HN := Lib.hid (h.note hi hb hx)
 have HF : Hid (Fr (hB slots ph v gp bs) w (w.setCell ⟨b, i % 64, none⟩ (.int .i64 (x : Int)))) := Lib.hid ((Fr.refl _ w).setCell _ _ (.inl (mem_hB.2 (.inr (.inr (.inr ⟨_, hk, hb⟩))))))
 clear h hb hle
 rw [← HX.out] at HN HF
 generalize (slots + 63) / 64 = m at *
 go_enter Tryz.func176, Tryz.ntmps176
 go_wp2
 go_end0
 exact ⟨rfl, bs, HN.out, HF.out, fun q hq => .inl hq⟩
 }
 | none => {
 rw [hb] at hd
 simp only [optP, Option.map_none] at hd
 have hM := h.more hk hb rfl
 have c3' := hM.hd.cell 3
 simp only [List.getElem?_cons_zero, List.getElem?_cons_succ] at c3'
 have hd' := hM.dirAt hk
 rw [updB_same] at hd'
 simp only [optP, Option.map_some] at hd'
 have h0 := (hM.some_ _ _ hk (updB_same _ _ _)).cell (i % 64)
 have hz := (hM.some_ _ _ hk (updB_same _ _ _)).frozen (i % 64)
 rw [blkC_at pl (i / 64) (by omega)] at h0
 have HN := Lib.hid (hM.note hi (updB_same _ _ _) hx)
 have hF1 : Fr (hB slots ph v gp bs) w ((w.alloc (.cells #[.int .i64 0, .int .i64 0, .int .i64 0, .int .i64 0, .int .i64 0, .int .i64 0, .int .i64 0, .int .i64 0, .int .i64 0, .int .i64 0, .int .i64 0, .int .i64 0, .int .i64 0, .int .i64 0, .int .i64 0, .int .i64 0, .int .i64 0, .int .i64 0, .int .i64 0, .int .i64 0, .int .i64 0, .int .i64 0, .int .i64 0, .int .i64 0, .int .i64 0, .int .i64 0, .int .i64 0, .int .i64 0, .int .i64 0, .int .i64 0, .int .i64 0, .int .i64 0, .int .i64 0, .int .i64 0, .int .i64 0, .int .i64 0, .int .i64 0, .int .i64 0, .int .i64 0, .int .i64 0, .int .i64 0, .int .i64 0, .int .i64 0, .int .i64 0, .int .i64 0, .int .i64 0, .int .i64 0, .int .i64 0, .int .i64 0, .int .i64 0, .int .i64 0, .int .i64 0, .int .i64 0, .int .i64 0, .int .i64 0, .int .i64 0, .int .i64 0, .int .i64 0, .int .i64 0, .int .i64 0, .int .i64 0, .int .i64 0, .int .i64 0, .int .i64 0] 221)).setCell ⟨gp, i / 64, none⟩ (hptr w.heap.size)) := ((Fr.refl _ w).alloc _).setCell _ _ (.inl (by simp [hB]))
 have HF : Hid (Fr (hB slots ph v gp bs) w (((w.alloc (.cells #[.int .i64 0, .int .i64 0, .int .i64 0, .int .i64 0, .int .i64 0, .int .i64 0, .int .i64 0, .int .i64 0, .int .i64 0, .int .i64 0, .int .i64 0, .int .i64 0, .int .i64 0, .int .i64 0, .int .i64 0, .int .i64 0, .int .i64 0, .int .i64 0, .int .i64 0, .int .i64 0, .int .i64 0, .int .i64 0, .int .i64 0, .int .i64 0, .int .i64 0, .int .i64 0, .int .i64 0, .int .i64 0, .int .i64 0, .int .i64 0, .int .i64 0, .int .i64 0, .int .i64 0, .int .i64 0, .int .i64 0, .int .i64 0, .int .i64 0, .int .i64 0, .int .i64 0, .int .i64 0, .int .i64 0, .int .i64 0, .int .i64 0, .int .i64 0, .int .i64 0, .int .i64 0, .int .i64 0, .int .i64 0, .int .i64 0, .int .i64 0, .int .i64 0, .int .i64 0, .int .i64 0, .int .i64 0, .int .i64 0, .int .i64 0, .int .i64 0, .int .i64 0, .int .i64 0, .int .i64 0, .int .i64 0, .int .i64 0, .int .i64 0, .int .i64 0] 221)).setCell ⟨gp, i / 64, none⟩ (hptr w.heap.size)).setCell ⟨w.heap.size, i % 64, none⟩ (.int .i64 (x : Int)))) := Lib.hid (hF1.setCell _ _ (.inr (Nat.le_refl _)))
 have c3a : (w.alloc (.cells #[.int .i64 0, .int .i64 0, .int .i64 0, .int .i64 0, .int .i64 0, .int .i64 0, .int .i64 0, .int .i64 0, .int .i64 0, .int .i64 0, .int .i64 0, .int .i64 0, .int .i64 0, .int .i64 0, .int .i64 0, .int .i64 0, .int .i64 0, .int .i64 0, .int .i64 0, .int .i64 0, .int .i64 0, .int .i64 0, .int .i64 0, .int .i64 0, .int .i64 0, .int .i64 0, .int .i64 0, .int .i64 0, .int .i64 0, .int .i64 0, .int .i64 0, .int .i64 0, .int .i64 0, .int .i64 0, .int .i64 0, .int .i64 0, .int .i64 0, .int .i64 0, .int .i64 0, .int .i64 0, .int .i64 0, .int .i64 0, .int .i64 0, .int .i64 0, .int .i64 0, .int .i64 0, .int .i64 0, .int .i64 0, .int .i64 0, .int .i64 0, .int .i64 0, .int .i64 0, .int .i64 0, .int .i64 0, .int .i64 0, .int .i64 0, .int .i64 0, .int .i64 0, .int .i64 0, .int .i64 0, .int .i64 0, .int .i64 0, .int .i64 0, .int .i64 0] 221)).cell? ⟨ph, 3, none⟩ = some (.slice (some ⟨gp, 0, none⟩) ((slots + 63) / 64) cp) := ((Fr.refl [] w).alloc _).cell c3 (by simp)
 have hda : (w.alloc (.cells #[.int .i64 0, .int .i64 0, .int .i64 0, .int .i64 0, .int .i64 0, .int .i64 0, .int .i64 0, .int .i64 0, .int .i64 0, .int .i64 0, .int .i64 0, .int .i64 0, .int .i64 0, .int .i64 0, .int .i64 0, .int .i64 0, .int .i64 0, .int .i64 0, .int .i64 0, .int .i64 0, .int .i64 0, .int .i64 0, .int .i64 0, .int .i64 0, .int .i64 0, .int .i64 0, .int .i64 0, .int .i64 0, .int .i64 0, .int .i64 0, .int .i64 0, .int .i64 0, .int .i64 0, .int .i64 0, .int .i64 0, .int .i64 0, .int .i64 0, .int .i64 0, .int .i64 0, .int .i64 0, .int .i64 0, .int .i64 0, .int .i64 0, .int .i64 0, .int .i64 0, .int .i64 0, .int .i64 0, .int .i64 0, .int .i64 0, .int .i64 0, .int .i64 0, .int .i64 0, .int .i64 0, .int .i64 0, .int .i64 0, .int .i64 0, .int .i64 0, .int .i64 0, .int .i64 0, .int .i64 0, .int .i64 0, .int .i64 0, .int .i64 0, .int .i64 0] 221)).cell? ⟨gp, i / 64, none⟩ = some (.pointer none) := ((Fr.refl [] w).alloc _).cell hd (by simp)
 have hza : (w.alloc (.cells #[.int .i64 0, .int .i64 0, .int .i64 0, .int .i64 0, .int .i64 0, .int .i64 0, .int .i64 0, .int .i64 0, .int .i64 0, .int .i64 0, .int .i64 0, .int .i64 0, .int .i64 0, .int .i64 0, .int .i64 0, .int .i64 0, .int .i64 0, .int .i64 0, .int .i64 0, .int .i64 0, .int .i64 0, .int .i64 0, .int .i64 0, .int .i64 0, .int .i64 0, .int .i64 0, .int .i64 0, .int .i64 0, .int .i64 0, .int .i64 0, .int .i64 0, .int .i64 0, .int .i64 0, .int .i64 0, .int .i64 0, .int .i64 0, .int .i64 0, .int .i64 0, .int .i64 0, .int .i64 0, .int .i64 0, .int .i64 0, .int .i64 0, .int .i64 0, .int .i64 0, .int .i64 0, .int .i64 0, .int .i64 0, .int .i64 0, .int .i64 0, .int .i64 0, .int .i64 0, .int .i64 0, .int .i64 0, .int .i64 0, .int .i64 0, .int .i64 0, .int .i64 0, .int .i64 0, .int .i64 0, .int .i64 0, .int .i64 0, .int .i64 0, .int .i64 0] 221)).frozen? ⟨gp, i / 64, none⟩ = false := (h.dir.alloc _).frozen (i / 64)
 clear h hb hle hM hF1
 rw [← HX.out] at HN HF
 generalize (slots + 63) / 64 = m at *
 go_enter Tryz.func176, Tryz.ntmps176
 go_wp2
 go_end0
 exact ⟨rfl, _, HN.out, HF.out, fun q hq => (hB_more q hq).imp (fun h => h) (fun h => by omega)⟩
 }
end
end Go.Proofs.YtgmnemndjjmgkaaGreat

/- The heap: swap, above, below. -/
namespace Go.Proofs.YtgmnemndjjmgkaaGreat
open Go.RowKit
set_option maxRecDepth 10000
set_option maxHeartbeats 800000
theorem swp_upd (e : Nat → Nat × Int) (p q : Nat) : updE (updE e p (e q)) q (e p) = swpE e p q := by
 funext x
 unfold updE swpE
 by_cases h1 : x = p
 {
 by_cases h2 : x = q
 · rw [if_pos h2, if_pos h1]; rw [← h1, ← h2]
 · rw [if_neg h2, if_pos h1, if_pos h1]
 }
 {
 by_cases h2 : x = q
 · rw [if_pos h2, if_neg h1, if_pos h2]
 · rw [if_neg h2, if_neg h1, if_neg h1, if_neg h2]
 }
section
variable {w w' : World} {ph slots n : Nat} {e : Nat → Nat × Int} {pl : Nat → Nat} {v : Value} {gp cp : Nat} {bs : Nat → Option Nat}
theorem HM.st {g cap : Nat} (h : HM w ph slots n e pl (.slice (some ⟨g, 0, none⟩) n cap) gp cp bs) {p : Nat} (hp : p < n) (x : Nat × Int) :
    HM ((w.setCell ⟨g, p * 2, none⟩ (.int .i64 (x.1 : Int))).setCell ⟨g, p * 2 + 1, none⟩ (.int .i64 x.2)) ph slots n (updE e p x) pl (.slice (some ⟨g, 0, none⟩) n cap) gp cp bs := by
 have a2 := h.ap2
 have a3 := h.ap3
 simp only [Value.ownBlock, ne_eq, Option.some.injEq] at a2 a3
 refine ⟨(h.hd.other _ _ (fun e => a2 e.symm)).other _ _ (fun e => a2 e.symm), ?_, (h.dir.other _ _ (fun e => a3 e.symm)).other _ _ (fun e => a3 e.symm), fun k b hk hb => ?_, h.none_, h.le, h.nb, h.pb, h.ap1, h.ap2, h.ap3, h.ap4, h.ap5⟩
 {
 have := ownsRow_setK (i := p * 2 + 1) (ownsRow_setK (i := p * 2) h.items (.int .i64 (x.1 : Int))) (.int .i64 x.2)
 rw [entC_set hp] at this
 exact this
 }
 {
 have a4 := (h.ap4 k b hk hb).2.2
 simp only [Value.ownBlock, ne_eq, Option.some.injEq] at a4
 exact ((h.some_ k b hk hb).other _ _ (fun e => a4 e.symm)).other _ _ (fun e => a4 e.symm)
 }
theorem swap_w (h : HM w ph slots n e pl v gp cp bs) {p q : Nat} (hp : p < n) (hq : q < n) (hlt : ∀ x, x < n → (e x).1 < slots) :
    Calls Tryz.prog 175 #[hptr ph, .int .i64 p, .int .i64 q] w fun e' w' => e' = .returned (.tuple #[]) ∧ ∃ bs', HM w' ph slots n (swpE e p q) (updP (updP pl (e q).1 (p + 1)) (e p).1 (q + 1)) v gp cp bs' ∧
      Fr (hB slots ph v gp bs) w w' ∧ ∀ b ∈ hB slots ph v gp bs', b ∈ hB slots ph v gp bs ∨ w.heap.size ≤ b := by
 have hnb := h.nb
 have c2 := h.hd.cell 2
 simp only [List.getElem?_cons_zero, List.getElem?_cons_succ] at c2
 obtain ⟨g, cap, rfl, _, hgl, p0, p1, fz⟩ := ent_at h.items hp
 obtain ⟨g', cap', e1, _, _, q0, q1, _⟩ := ent_at h.items hq
 simp only [Value.slice.injEq, Option.some.injEq, Addr.mk.injEq, and_true, true_and] at e1
 obtain ⟨rfl, rfl⟩ := e1
 have fzp0 := fz (p * 2)
 have fzp1 := fz (p * 2 + 1)
 have hp1 : (p : Int) < n := by omega
 have hq1 : (q : Int) < n := by omega
 have hp0 : (0 : Int) ≤ p := by omega
 have hq0 : (0 : Int) ≤ q := by omega
 have hmem : g ∈ hB slots ph (.slice (some ⟨g, 0, none⟩) n cap) gp bs := by simp [hB, Value.ownBlock]
 have Hlt := Lib.hid (And.intro (hlt p hp) (hlt q hq)); clear hlt
 have HH := Lib.hid h
 clear h fz
 go_enter Tryz.func175, Tryz.ntmps175
 go_wp2
 refine region_many [25, 27] [9] (fun k w' => match k with
   | 0 => ∃ m, w' = w.drewN m
   | 1 => HM w' ph slots n (updE e p (e q)) pl (.slice (some ⟨g, 0, none⟩) n cap) gp cp bs ∧ Fr (hB slots ph (.slice (some ⟨g, 0, none⟩) n cap) gp bs) w w'
   | _ => HM w' ph slots n (swpE e p q) pl (.slice (some ⟨g, 0, none⟩) n cap) gp cp bs ∧ Fr (hB slots ph (.slice (some ⟨g, 0, none⟩) n cap) gp bs) w w') (fun w' => Iff.rfl) (by kernel_rfl) (by kernel_rfl) (by kernel_rfl) ?_
 iterate 9 (refine mWalk_pre (by decide) (fun K hK => ?_); go_simp; refine hK _ ?_; clear hK K)
 refine mWalk_post (by decide) (fun K hK => ?_); go_simp; refine hK _ ?_; clear hK K
 iterate 15 (refine mWalk_pre (by decide) (fun K hK => ?_); go_simp; refine hK _ ?_; clear hK K)
 refine mWalk_write (q := 0) (by decide) rfl undef (fun w' hw' => ?_) ?_
 {
 obtain ⟨nq, rfl⟩ := hw'
 go_simp
 exact ⟨(HH.out.fr0 ((Fr.refl _ _).drewN nq)).st hp (e q), (((Fr.refl _ w).drewN nq).setCell _ _ (.inl hmem)).setCell _ _ (.inl hmem)⟩
 }
 iterate 1 (refine mWalk_post (by decide) (fun K hK => ?_); go_simp; refine hK _ ?_; clear hK K)
 refine mWalk_write (q := 1) (by decide) rfl undef (fun w' hw' => ?_) ?_
 {
 obtain ⟨hA, hB'⟩ := hw'
 obtain ⟨g', cap', e1, _, _, b0, b1, fz'⟩ := ent_at hA.items hq
 simp only [Value.slice.injEq, Option.some.injEq, Addr.mk.injEq, and_true, true_and] at e1
 obtain ⟨rfl, rfl⟩ := e1
 have fzq0 := fz' (q * 2)
 have fzq1 := fz' (q * 2 + 1)
 clear fz'
 go_simp
 have h2 := hA.st hq (e p)
 rw [swp_upd] at h2
 exact ⟨h2, (hB'.setCell _ _ (.inl hmem)).setCell _ _ (.inl hmem)⟩
 }
 refine mWalk_nil ?_
 rintro w2 ⟨h2, f2⟩
 clear p0 p1 q0 q1 c2 fzp0 fzp1 HH
 have c2 := h2.hd.cell 2
 simp only [List.getElem?_cons_zero, List.getElem?_cons_succ] at c2
 obtain ⟨g', cap', e1, _, _, p0, _, _⟩ := ent_at h2.items hp
 simp only [Value.slice.injEq, Option.some.injEq, Addr.mk.injEq, and_true, true_and] at e1
 obtain ⟨rfl, rfl⟩ := e1
 rw [swpE_p] at p0
 have HP := Lib.hid (put_w h2 Hlt.out.2 (x := p + 1) (by omega) (p : Int) (by omega))
 have HF2 := Lib.hid f2; clear f2 h2
 go_wp2_with fail
 refine HP.out.mono ?_
 rintro _ w3 ⟨rfl, bs3, h3, f3, s3⟩
 have hs2 := HF2.out.size
 have HF3 := Lib.hid (HF2.out.trans' f3)
 have HS3 : Hid (∀ b ∈ hB slots ph (.slice (some ⟨g, 0, none⟩) n cap) gp bs3, b ∈ hB slots ph (.slice (some ⟨g, 0, none⟩) n cap) gp bs ∨ w.heap.size ≤ b) := Lib.hid (fun b hb => (s3 b hb).imp (fun h => h) (fun h => by omega))
 clear c2 p0 HP f3 s3
 have c2 := h3.hd.cell 2
 simp only [List.getElem?_cons_zero, List.getElem?_cons_succ] at c2
 obtain ⟨g', cap', e1, _, _, q0, _, _⟩ := ent_at h3.items hq
 simp only [Value.slice.injEq, Option.some.injEq, Addr.mk.injEq, and_true, true_and] at e1
 obtain ⟨rfl, rfl⟩ := e1
 rw [swpE_q] at q0
 have HP := Lib.hid (put_w h3 Hlt.out.1 (x := q + 1) (by omega) (q : Int) (by omega))
 clear h3
 go_wp2_with fail
 refine HP.out.mono ?_
 rintro _ w4 ⟨rfl, bs4, h4, f4, s4⟩
 have hs3 := HF3.out.size
 have H4 := Lib.hid (And.intro h4 (And.intro (HF3.out.trans f4 (fun b hb => HS3.out b hb)) (show ∀ b ∈ hB slots ph (.slice (some ⟨g, 0, none⟩) n cap) gp bs4, b ∈ hB slots ph (.slice (some ⟨g, 0, none⟩) n cap) gp bs ∨ w.heap.size ≤ b from fun b hb => (s4 b hb).elim (HS3.out b) (fun h => .inr (by omega)))))
 clear h4 f4 s4
 go_wp2
 go_end0
 exact ⟨rfl, bs4, H4.out⟩
end
end Go.Proofs.YtgmnemndjjmgkaaGreat

namespace Go.Proofs.YtgmnemndjjmgkaaGreat
open Go.RowKit
set_option maxRecDepth 10000
set_option maxHeartbeats 800000
def abvI (e : Nat → Nat × Int) (p : Nat) : Int := if 0 < p ∧ elt (e p) (e ((p - 1) / 2)) then ((p - 1) / 2 : Nat) else -1
def blwI (n : Nat) (e : Nat → Nat × Int) (p : Nat) : Int := if blw n e p = p then -1 else (blw n e p : Nat)
def fstK (n : Nat) (e : Nat → Nat × Int) (p k : Nat) : Nat := if k = 0 then p else if k = 1 then blw1 n e p else blw n e p
theorem fstK_0 (n : Nat) (e : Nat → Nat × Int) (p : Nat) : fstK n e p 0 = p := by simp [fstK]
theorem fstK_1 (n : Nat) (e : Nat → Nat × Int) (p : Nat) : fstK n e p 1 = blw1 n e p := by simp [fstK]
theorem fstK_2 (n : Nat) (e : Nat → Nat × Int) (p : Nat) : fstK n e p 2 = blw n e p := by simp [fstK]
theorem fstK_yes {n : Nat} {e : Nat → Nat × Int} {p k q : Nat} (hk : k < 2) (hq : q = 2 * p + 1 + k) (h : q < n ∧ elt (e q) (e (fstK n e p k))) : fstK n e p (k + 1) = q := by
 subst hq
 rcases (show k = 0 ∨ k = 1 by omega) with rfl | rfl
 · rw [fstK_0] at h; rw [fstK_1]; unfold blw1; rw [if_pos h]
 · rw [fstK_1] at h; rw [fstK_2]; unfold blw; rw [if_pos h]
theorem fstK_no {n : Nat} {e : Nat → Nat × Int} {p k q : Nat} (hk : k < 2) (hq : q = 2 * p + 1 + k) (h : ¬ (q < n ∧ elt (e q) (e (fstK n e p k)))) : fstK n e p (k + 1) = fstK n e p k := by
 subst hq
 rcases (show k = 0 ∨ k = 1 by omega) with rfl | rfl
 · rw [fstK_0] at h ⊢; rw [fstK_1]; unfold blw1; rw [if_neg h]
 · rw [fstK_1] at h ⊢; rw [fstK_2]; unfold blw; rw [if_neg h]
theorem fstK_lt {n : Nat} {e : Nat → Nat × Int} {p k : Nat} (hp : p < n) (hk : k ≤ 2) : fstK n e p k < n := by
 induction k with
 | zero => rw [fstK_0]; exact hp
 | succ k ih => {
 by_cases h : 2 * p + 1 + k < n ∧ elt (e (2 * p + 1 + k)) (e (fstK n e p k))
 · rw [fstK_yes (by omega) rfl h]; exact h.1
 · rw [fstK_no (by omega) rfl h]; exact ih (by omega)
 }
section
variable {w w' : World} {ph slots n : Nat} {e : Nat → Nat × Int} {pl : Nat → Nat} {v : Value} {gp cp : Nat} {bs : Nat → Option Nat}
theorem above_w (h : HM w ph slots n e pl v gp cp bs) {p : Nat} (hp : p < n) :
    Calls Tryz.prog 205 #[hptr ph, .int .i64 p] w fun e' w' => e' = .returned (.int .i64 (abvI e p)) ∧ Fr [] w w' := by
 have hnb := h.nb
 have c2 := h.hd.cell 2
 simp only [List.getElem?_cons_zero, List.getElem?_cons_succ] at c2
 by_cases h0 : p = 0
 {
 subst h0
 have e1 : abvI e 0 = -1 := by unfold abvI; rw [if_neg (by omega)]
 rw [e1]; clear e1 h
 have t1 : decide (((0 : Nat) : Int) > 0) = false := by decide
 have t1' : decide ((0 : Int) > 0) = false := by decide
 go_enter Tryz.func205, Tryz.ntmps205
 go_wp2
 go_quiet (fail)
 go_wp2
 go_ret
 exact ⟨rfl, (Fr.refl _ _).drewN _⟩
 }
 {
 obtain ⟨q, hq⟩ : ∃ q, q = (p - 1) / 2 := ⟨_, rfl⟩
 have hqi : ((p : Int) - 1) / 2 = (q : Int) := by omega
 have hqn : q < n := by omega
 obtain ⟨g, cap, rfl, _, hgl, p0, p1, _⟩ := ent_at h.items hp
 obtain ⟨g', cap', e1, _, _, q0, q1, _⟩ := ent_at h.items hqn
 simp only [Value.slice.injEq, Option.some.injEq, Addr.mk.injEq, and_true, true_and] at e1
 obtain ⟨rfl, rfl⟩ := e1
 have HO := Lib.hid (fun W => order_w (e p) (e q) W)
 have hp1 : (p : Int) < n := by omega
 have hq1 : (q : Int) < n := by omega
 have hp0 : (0 : Int) ≤ p := by omega
 have hq0 : (0 : Int) ≤ q := by omega
 have t1 : decide (0 < p) = true := decide_eq_true (by omega)
 have hcase : (ordI (e p) (e q) < 0 ∧ abvI e p = q) ∨ (¬ ordI (e p) (e q) < 0 ∧ abvI e p = -1) := by {
 rw [ordI_lt]
 unfold abvI
 rw [← hq]
 by_cases hl : elt (e p) (e q)
 · exact .inl ⟨hl, by rw [if_pos ⟨by omega, hl⟩]⟩
 · exact .inr ⟨hl, by rw [if_neg (fun h => hl h.2)]⟩
 }
 have HQ := Lib.hid hq; clear hq h
 generalize ordI (e p) (e q) = r at *
 generalize e p = x at *
 generalize e q = y at *
 obtain ⟨x1, x2⟩ := x
 obtain ⟨y1, y2⟩ := y
 rcases hcase with ⟨hr, ha⟩ | ⟨hr, ha⟩
 {
 have t2 : decide (r < 0) = true := decide_eq_true hr
 have HA := Lib.hid ha; clear ha hr
 go_enter Tryz.func205, Tryz.ntmps205
 go_wp2
 go_region_held3 (fun w' => w'.cell? ⟨ph, 2, none⟩ = some (.slice (some ⟨g, 0, none⟩) n cap) ∧ w'.cell? ⟨g, p * 2, none⟩ = some (.int .i64 x1) ∧ w'.cell? ⟨g, p * 2 + 1, none⟩ = some (.int .i64 x2) ∧ w'.cell? ⟨g, q * 2, none⟩ = some (.int .i64 y1) ∧ w'.cell? ⟨g, q * 2 + 1, none⟩ = some (.int .i64 y2))
   (first
     | go_keep
     | (exact ⟨hF3.cell (by assumption) (by simp), hF3.cell (by assumption) (by simp), hF3.cell (by assumption) (by simp), hF3.cell (by assumption) (by simp), hF3.cell (by assumption) (by simp)⟩))
   (first
     | (go_at_call 224; refine (HO.out _).mono ?_; rintro e w3 ⟨rfl, hF3⟩))
 go_wp2
 go_ret
 exact ⟨by rw [HA.out]; rfl, ((Fr.refl [] w).drew).trans' hF3⟩
 }
 {
 have t2 : decide (r < 0) = false := decide_eq_false hr
 have HA := Lib.hid ha; clear ha hr
 go_enter Tryz.func205, Tryz.ntmps205
 go_wp2
 go_region_held3 (fun w' => w'.cell? ⟨ph, 2, none⟩ = some (.slice (some ⟨g, 0, none⟩) n cap) ∧ w'.cell? ⟨g, p * 2, none⟩ = some (.int .i64 x1) ∧ w'.cell? ⟨g, p * 2 + 1, none⟩ = some (.int .i64 x2) ∧ w'.cell? ⟨g, q * 2, none⟩ = some (.int .i64 y1) ∧ w'.cell? ⟨g, q * 2 + 1, none⟩ = some (.int .i64 y2))
   (first
     | go_keep
     | (exact ⟨hF3.cell (by assumption) (by simp), hF3.cell (by assumption) (by simp), hF3.cell (by assumption) (by simp), hF3.cell (by assumption) (by simp), hF3.cell (by assumption) (by simp)⟩))
   (first
     | (go_at_call 224; refine (HO.out _).mono ?_; rintro e w3 ⟨rfl, hF3⟩))
 go_wp2
 go_ret
 exact ⟨by rw [HA.out]; rfl, ((Fr.refl [] w).drew).trans' hF3⟩
 }
 }
theorem below_w (h : HM w ph slots n e pl v gp cp bs) {p : Nat} (hp : p < n) :
    Calls Tryz.prog 206 #[hptr ph, .int .i64 p] w fun e' w' => e' = .returned (.int .i64 (blwI n e p)) ∧ Fr [] w w' := by
 have hnb := h.nb
 have c2 := h.hd.cell 2
 simp only [List.getElem?_cons_zero, List.getElem?_cons_succ] at c2
 obtain ⟨g, cap, rfl, _, hgl, _, _, _⟩ := ent_at h.items hp
 have HE : Hid (∀ (W : World) (x : Nat), Fr [] w W → x < n → W.cell? ⟨g, x * 2, none⟩ = some (.int .i64 ((e x).1 : Int)) ∧ W.cell? ⟨g, x * 2 + 1, none⟩ = some (.int .i64 (e x).2)) := Lib.hid (fun W x hf hx => by
   obtain ⟨g', cap', e1, _, _, q0, q1, _⟩ := ent_at (h.fr0 hf).items hx
   simp only [Value.slice.injEq, Option.some.injEq, Addr.mk.injEq, and_true, true_and] at e1
   obtain ⟨rfl, rfl⟩ := e1
   exact ⟨q0, q1⟩)
 have HC : Hid (∀ (W : World), Fr [] w W → W.cell? ⟨ph, 2, none⟩ = some (.slice (some ⟨g, 0, none⟩) n cap)) := Lib.hid (fun W hf => hf.cell c2 (by simp))
 have HO := Lib.hid (fun (a b : Nat × Int) (W : World) => order_w a b W)
 clear h c2
 go_enter Tryz.func206, Tryz.ntmps206
 go_wp2
 go_loopw [5, 9] (fun sf sk wr => ∃ k : Nat, k ≤ 2 ∧ sk = .int .i64 k ∧ sf = .int .i64 (fstK n e p k : Nat) ∧ Hid (Fr [] w wr)) (fun _ sk _ => 2 - (intOf sk).toNat)
 case atStart => exact ⟨0, by omega, rfl, by rw [fstK_0], Lib.hid (Fr.refl _ _)⟩
 case round =>
  obtain ⟨k, hk, rfl, rfl, HF⟩ := hrel
  have hfl := fstK_lt (e := e) hp hk
  by_cases hk2 : k < 2
  {
  obtain ⟨q, hq⟩ : ∃ q, q = 2 * p + 1 + k := ⟨_, rfl⟩
  have hqi : 2 * (p : Int) + 1 + (k : Int) = (q : Int) := by omega
  have hki : (k : Int) < 2 := by omega
  have Hy := Lib.hid (fun (h : q < n ∧ elt (e q) (e (fstK n e p k))) => fstK_yes hk2 hq h)
  have Hn := Lib.hid (fun (h : ¬ (q < n ∧ elt (e q) (e (fstK n e p k)))) => fstK_no hk2 hq h)
  have HQ := Lib.hid hq; clear hq
  have c2 := HC.out _ HF.out
  have hq0 : (0 : Int) ≤ q := by omega
  generalize hF1 : fstK n e p (k + 1) = f1 at *
  have HF1 := Lib.hid hF1; clear hF1
  generalize fstK n e p k = f0 at *
  have hf0 : (0 : Int) ≤ f0 := by omega
  have hf1 : (f0 : Int) < n := by omega
  by_cases hqn : q < n
  {
  have hqn1 : (q : Int) < n := by omega
  have t1 : decide (q < n) = true := decide_eq_true hqn
  obtain ⟨q0, q1⟩ := HE.out _ q HF.out hqn
  obtain ⟨p0, p1⟩ := HE.out _ f0 HF.out hfl
  have HO2 := Lib.hid (fun W => HO.out (e q) (e f0) W)
  have hcase : (ordI (e q) (e f0) < 0 ∧ f1 = q) ∨ (¬ ordI (e q) (e f0) < 0 ∧ f1 = f0) := by {
  rw [ordI_lt]
  by_cases hl : elt (e q) (e f0)
  · exact .inl ⟨hl, Hy.out ⟨hqn, hl⟩⟩
  · exact .inr ⟨hl, Hn.out (fun h => hl h.2)⟩
  }
  clear Hy Hn
  generalize ordI (e q) (e f0) = r at *
  generalize e q = x at *
  generalize e f0 = y at *
  obtain ⟨x1, x2⟩ := x
  obtain ⟨y1, y2⟩ := y
  rcases hcase with ⟨hr, ha⟩ | ⟨hr, ha⟩
  {
  have t2 : decide (r < 0) = true := decide_eq_true hr
  have HA := Lib.hid ha; clear ha hr
  go_wp2
  go_region_held3 (fun w' => w'.cell? ⟨ph, 2, none⟩ = some (.slice (some ⟨g, 0, none⟩) n cap) ∧ w'.cell? ⟨g, q * 2, none⟩ = some (.int .i64 x1) ∧ w'.cell? ⟨g, q * 2 + 1, none⟩ = some (.int .i64 x2) ∧ w'.cell? ⟨g, f0 * 2, none⟩ = some (.int .i64 y1) ∧ w'.cell? ⟨g, f0 * 2 + 1, none⟩ = some (.int .i64 y2))
    (first
      | go_keep
      | (exact ⟨hF3.cell (by assumption) (by simp), hF3.cell (by assumption) (by simp), hF3.cell (by assumption) (by simp), hF3.cell (by assumption) (by simp), hF3.cell (by assumption) (by simp)⟩))
    (first
      | (go_at_call 224; refine (HO2.out _).mono ?_; rintro e w3 ⟨rfl, hF3⟩))
  have HF3 := Lib.hid ((HF.out.drew).trans' hF3); clear hF3
  go_wp2
  go_roundw
  case rel => exact ⟨k + 1, by omega, by go_num, by rw [HF1.out, HA.out], HF3⟩
  case measure => simp [intOf]; omega
  }
  {
  have t2 : decide (r < 0) = false := decide_eq_false hr
  have HA := Lib.hid ha; clear ha hr
  go_wp2
  go_region_held3 (fun w' => w'.cell? ⟨ph, 2, none⟩ = some (.slice (some ⟨g, 0, none⟩) n cap) ∧ w'.cell? ⟨g, q * 2, none⟩ = some (.int .i64 x1) ∧ w'.cell? ⟨g, q * 2 + 1, none⟩ = some (.int .i64 x2) ∧ w'.cell? ⟨g, f0 * 2, none⟩ = some (.int .i64 y1) ∧ w'.cell? ⟨g, f0 * 2 + 1, none⟩ = some (.int .i64 y2))
    (first
      | go_keep
      | (exact ⟨hF3.cell (by assumption) (by simp), hF3.cell (by assumption) (by simp), hF3.cell (by assumption) (by simp), hF3.cell (by assumption) (by simp), hF3.cell (by assumption) (by simp)⟩))
    (first
      | (go_at_call 224; refine (HO2.out _).mono ?_; rintro e w3 ⟨rfl, hF3⟩))
  have HF3 := Lib.hid ((HF.out.drew).trans' hF3); clear hF3
  go_wp2
  go_roundw
  case rel => exact ⟨k + 1, by omega, by go_num, by rw [HF1.out, HA.out], HF3⟩
  case measure => simp [intOf]; omega
  }
  }
  {
  have t1 : decide (q < n) = false := decide_eq_false hqn
  have HA := Lib.hid (Hn.out (fun h => hqn h.1))
  clear Hy Hn hqn
  go_wp2
  go_quiet (fail)
  go_wp2
  go_roundw
  case rel => exact ⟨k + 1, by omega, by go_num, by rw [HF1.out, HA.out], Lib.hid (HF.out.drewN _)⟩
  case measure => simp [intOf]; omega
  }
  }
  {
  obtain rfl : k = 2 := by omega
  rw [fstK_2] at *
  have hres : (blw n e p = p ∧ blwI n e p = -1) ∨ (blw n e p ≠ p ∧ blwI n e p = (blw n e p : Nat)) := by {
  unfold blwI
  by_cases hb : blw n e p = p
  · exact .inl ⟨hb, by rw [if_pos hb]⟩
  · exact .inr ⟨hb, by rw [if_neg hb]⟩
  }
  generalize blw n e p = b at *
  rcases hres with ⟨hb, hr⟩ | ⟨hb, hr⟩
  {
  have t1 : ((b : Int) == (p : Int)) = true := by simp; omega
  have HR := Lib.hid hr; clear hr hb
  go_wp2
  go_ret
  exact ⟨by rw [HR.out]; rfl, HF.out⟩
  }
  {
  have t1 : ((b : Int) == (p : Int)) = false := by simp; omega
  have HR := Lib.hid hr; clear hr hb
  go_wp2
  go_ret
  exact ⟨by rw [HR.out]; rfl, HF.out⟩
  }
  }
end
end Go.Proofs.YtgmnemndjjmgkaaGreat
