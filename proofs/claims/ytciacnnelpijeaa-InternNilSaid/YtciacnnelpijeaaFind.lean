/- The search in an intern table: probe (a range-function) and find. -/
import Derived.RangeFuncNested
import Derived.RangeFuncBound
import Derived.RangeFuncCalls
import Derived.RangeFuncLeaves
import Derived.Shelf.Abstract
import Derived.Shelf.RegionOpen
import Derived.OwnWalkIn
import Derived.TacticsInMore
import Derived.LoopNIn
import Derived.LoopIn
import Derived.Test.YtciacnnelpijeaaInternW
import Derived.Test.YtciacnnelpijeaaRound
namespace Go.Proofs.Ytciacnnelpijeaa
open Go.RowKit Go.Shelf
set_option maxRecDepth 4000
set_option maxHeartbeats 400000
attribute [local go_sem] Oper.semAt_some

theorem cell_of_box_l {W : World} {B : Nat} {v : Value} {t : TypeId} (h : W.heap[B]? = some (.cells #[v] t (0, 0))) : W.cell? ⟨B, 0, none⟩ = some v ∧ W.frozen? ⟨B, 0, none⟩ = false := by
  constructor <;> simp [World.cell?, World.frozen?, h]
theorem cell_new_l (W : World) (v : Value) (t : TypeId) : (W.alloc (.cells #[v] t)).cell? ⟨W.heap.size, 0, none⟩ = some v ∧ (W.alloc (.cells #[v] t)).frozen? ⟨W.heap.size, 0, none⟩ = false :=
  cell_of_box_l (World.alloc_heap_new W _)
theorem cell_alloc_l {W : World} {a : Addr} {v : Value} (o : Obj) (h : W.cell? a = some v) : (W.alloc o).cell? a = some v := cell_kept h (World.grownBy_alloc W o none) (fun r e => by cases e)
theorem frozen_alloc_l {W : World} {a : Addr} {v : Value} (o : Obj) (h : W.cell? a = some v) (hf : W.frozen? a = false) : (W.alloc o).frozen? a = false := (frozen_kept h (World.grownBy_alloc W o none) (fun r e => by cases e)).trans hf

theorem keeps_drewN (W : World) (n : Nat) : KeepsOthers W (W.drewN n) := ⟨Nat.le_refl _, fun _ _ h _ => h⟩

/-- What the search reads: the header of the table, its cells and its ids. -/
structure Reads (B : Nat) (w : World) (pt gc n cap : Nat) (C : Nat → Nat) (v : Value) : Prop where
  hpt : pt < B
  hgc : gc < B
  h3 : w.cell? ⟨pt, 3, none⟩ = some (.slice (some ⟨gc, 0, none⟩) n cap)
  h2 : w.cell? ⟨pt, 2, none⟩ = some v
  hC : ∀ c, c < n → w.cell? ⟨gc, c, none⟩ = some (.int .i64 (C c))
theorem Reads.below {B : Nat} {w w' : World} {pt gc n cap : Nat} {C : Nat → Nat} {v : Value} (h : Reads B w pt gc n cap C v) (hb : Below B w w') : Reads B w' pt gc n cap C v :=
  ⟨h.hpt, h.hgc, (hb.cell (p := ⟨pt, 3, none⟩) h.hpt).trans h.h3, (hb.cell (p := ⟨pt, 2, none⟩) h.hpt).trans h.h2, fun c hc => (hb.cell (p := ⟨gc, c, none⟩) h.hgc).trans (h.hC c hc)⟩
theorem Reads.mono {B B' : Nat} {w : World} {pt gc n cap : Nat} {C : Nat → Nat} {v : Value} (h : Reads B w pt gc n cap C v) (hb : B ≤ B') : Reads B' w pt gc n cap C v :=
  ⟨Nat.lt_of_lt_of_le h.hpt hb, Nat.lt_of_lt_of_le h.hgc hb, h.h3, h.h2, h.hC⟩

/-- A cell with its contents, as the range-function yields them. -/
abbrev Prb (n m : Nat) := { x : Nat × Nat // x.1 < n ∧ x.2 ≤ m }
def prb (n m : Nat) (C : Nat → Nat) (hC : ∀ c, c < n → C c ≤ m) (hn : 0 < n) (h0 k : Nat) : Prb n m := ⟨((h0 + k) % n, C ((h0 + k) % n)), Nat.mod_lt _ hn, hC _ (Nat.mod_lt _ hn)⟩
def prbs (n m : Nat) (C : Nat → Nat) (hC : ∀ c, c < n → C c ≤ m) (hn : 0 < n) (h0 k : Nat) : List (Prb n m) := (List.range k).map (prb n m C hC hn h0)
theorem prbs_succ (n m : Nat) (C : Nat → Nat) (hC : ∀ c, c < n → C c ≤ m) (hn : 0 < n) (h0 k : Nat) : prbs n m C hC hn h0 (k + 1) = prbs n m C hC hn h0 k ++ [prb n m C hC hn h0 k] := by
  simp [prbs, List.range_succ]

theorem prbs_prefix (n m : Nat) (C : Nat → Nat) (hC : ∀ c, c < n → C c ≤ m) (hn : 0 < n) (h0 k : Nat) (hk : k ≤ n) : prbs n m C hC hn h0 k <+: prbs n m C hC hn h0 n := by
  refine ⟨((List.range n).drop k).map (prb n m C hC hn h0), ?_⟩
  unfold prbs
  rw [← List.map_append]
  congr 1
  have : List.range k = (List.range n).take k := by rw [List.take_range, Nat.min_eq_left hk]
  rw [this, List.take_append_drop]

theorem probe_in (pt id : Nat) (w : World) :
    CallsIn Fence.wide 9 Try.prog 50 #[ptr pt, .int .u64 id] w fun e w' => e = .returned (.func (.func 58) #[] #[.pointer (some ⟨w.heap.size, 0, none⟩), .pointer (some ⟨w.heap.size + 1, 0, none⟩)]) ∧ w' = (w.alloc (.cells #[ptr pt] 25)).alloc (.cells #[.int .u64 id] 23) := by
  refine callsIn_of_wp Try.func50 rfl trivial ?_ rfl
  simp only [Try.ntmps50, List.size_toArray, List.length_cons, List.length_nil, Nat.reduceAdd, Nat.reduceSub, Array.replicate_succ, Array.replicate_zero, List.push_toArray, List.append_toArray, List.nil_append, List.cons_append]
  gi_wp2
  go_ret
  exact ⟨rfl, rfl⟩

theorem probe1_in (nf l Bt Bi B pt gc n cap m id : Nat) (C : Nat → Nat) (v : Value) (hC : ∀ c, c < n → C c ≤ m) (hM : Mask n) (_hmm : m ≤ 65536) (hid : id < 18446744073709551616) (hnf : 2 ≤ nf) (hBt : Bt < B) (_hBi : Bi < B)
    (J Jx : List (Prb n m) → World → Prop)
    (hY : ∀ pre x W, J pre W → pre.length < n → YieldAt Fence.wide (nf - 1) Try.prog l #[.int .i64 x.1.1, .int .i64 x.1.2] W fun e W' =>
      (e = .returned (.bool true) ∧ J (pre ++ [x]) W' ∧ Below B W W') ∨ (e = .returned (.bool false) ∧ Jx (pre ++ [x]) W'))
    (W : World) (hR : Reads B W pt gc n cap C v) (hct : W.cell? ⟨Bt, 0, none⟩ = some (ptr pt)) (hci : W.cell? ⟨Bi, 0, none⟩ = some (.int .u64 id)) (h0 : J [] W) :
    CallsIn Fence.wide nf Try.prog 58 #[.func (.yield l) #[] #[], .pointer (some ⟨Bt, 0, none⟩), .pointer (some ⟨Bi, 0, none⟩)] W fun e W' => (∃ v, e = .returned v) ∧
      ((∃ ys, ys = prbs n m C hC (by have := hM.pos; omega) (hm n id) n ∧ J ys W') ∨ (∃ pre, pre <+: prbs n m C hC (by have := hM.pos; omega) (hm n id) n ∧ Jx pre W')) := by
  have hn := hM.pos
  have hn2 := hM.le
  have hi := hM.i64
  have HR := Lib.hid hR; clear hR
  have c3 := HR.out.h3
  have hh := hm_lt (show 0 < n by omega) id
  refine callsIn_of_wp Try.func58 rfl trivial ?_ rfl
  simp only [Try.ntmps58, List.size_toArray, List.length_cons, List.length_nil, Nat.reduceAdd, Nat.reduceSub, Array.replicate_succ, Array.replicate_zero, List.push_toArray, List.append_toArray, List.nil_append, List.cons_append]
  gi_wp2_with (refine ⟨trivial, fun _ => by omega, ?_⟩; gi_at_call 54; refine (callsIn_wide.2 (home_w pt gc n cap id _ c3 hid hM)).mono ?_; rintro e w' ⟨rfl, rfl⟩)
  gi_loopw [4, 13] (fun c i wr => ∃ k c0 : Nat, k ≤ n ∧ c0 < n ∧ Hid (c0 = (hm n id + k) % n) ∧ c = .int .i64 c0 ∧ i = .int .i64 k ∧ Below B W wr ∧ J (prbs n m C hC (by omega) (hm n id) k) wr) (fun _ i _ => n - (intOf i).toNat)
  case atStart => exact ⟨0, hm n id, Nat.zero_le _, hh, Lib.hid (by rw [Nat.add_zero, Nat.mod_eq_of_lt hh]), rfl, rfl, Below.refl _ _, h0⟩
  case round =>
    obtain ⟨k, c0, hk, hc0, Hc, rfl, rfl, hB, hJ⟩ := hrel
    by_cases hlt : k < n
    · have hRw := HR.out.below hB
      have r3 := hRw.h3
      have rC := hRw.hC c0 hc0
      have rt := (hB.cell (p := ⟨Bt, 0, none⟩) hBt).trans hct
      have HR2 := Lib.hid hRw; clear hRw
      obtain ⟨fn, tmps, assign, body, hy, hRd⟩ := hY (prbs n m C hC (by omega) (hm n id) k) (prb n m C hC (by omega) (hm n id) k) wr hJ (by simp [prbs]; exact hlt)
      have e0 : (prb n m C hC (by omega) (hm n id) k).1.1 = c0 := Hc.out.symm
      have e1 : (prb n m C hC (by omega) (hm n id) k).1.2 = C c0 := by simp only [prb]; rw [← Hc.out]
      rw [e0, e1] at hy
      clear e0 e1
      gi_wp2
      refine ⟨fun _ => by omega, ?_⟩
      refine hRd.mono ?_
      rintro e W3 (⟨rfl, hJ3, hk3⟩ | ⟨rfl, hJx3⟩)
      · have hR3 := HR2.out.below hk3
        have r33 := hR3.h3
        have rt3 := (hk3.cell (p := ⟨Bt, 0, none⟩) hBt).trans rt
        clear hR3 rC r3 rt
        gi_wp2
        go_roundw
        case rel => exact ⟨k + 1, (c0 + 1) % n, by omega, Nat.mod_lt _ (by omega), Lib.hid (by rw [Hc.out, Nat.mod_add_mod, Nat.add_assoc]), by go_num, by go_num, hB.trans hk3, by rw [prbs_succ]; exact hJ3⟩
        case measure => simp [intOf]; omega
      · gi_wp2
        refine bodyPost_ret (results_none rfl _ _ _) rfl ?_
        exact ⟨⟨_, rfl⟩, .inr ⟨_, by rw [← prbs_succ]; exact prbs_prefix n m C hC (by omega) (hm n id) (k + 1) (by omega), hJx3⟩⟩
    · gi_wp2
      go_end0
      have : k = n := by omega
      subst this
      exact ⟨⟨_, rfl⟩, .inl ⟨_, rfl, hJ⟩⟩

/-- What 'find' comes to: k cells were passed over, each with another id. -/
def Found (n : Nat) (C ids : Nat → Nat) (id c : Nat) (b : Bool) : Prop :=
  ∃ k, k < n ∧ c = (hm n id + k) % n ∧ (∀ j, j < k → C ((hm n id + j) % n) ≠ 0 ∧ ids (C ((hm n id + j) % n) - 1) ≠ id) ∧
    ((b = false ∧ C c = 0) ∨ (b = true ∧ C c ≠ 0 ∧ ids (C c - 1) = id))

def W6 (w : World) (pt id : Nat) : World := (((((w.alloc (.cells #[ptr pt] 25)).alloc (.cells #[.int .u64 id] 23)).alloc (.cells #[.int .i64 0] 3)).alloc (.cells #[.bool false] 4)).alloc (.cells #[ptr pt] 25)).alloc (.cells #[.int .u64 id] 23)
theorem W6_size (w : World) (pt id : Nat) : (W6 w pt id).heap.size = w.heap.size + 6 := by simp [W6]
theorem W6_below (w : World) (pt id : Nat) : Below w.heap.size w (W6 w pt id) :=
  ((((((Below.refl _ w).alloc (Nat.le_refl _) _).alloc (by simp) _).alloc (by simp; omega) _).alloc (by simp; omega) _).alloc (by simp; omega) _).alloc (by simp; omega) _
theorem W6_blk (w : World) (pt id : Nat) : Blk (W6 w pt id) w.heap.size 25 [ptr pt] ∧ Blk (W6 w pt id) (w.heap.size + 1) 23 [.int .u64 id] ∧ Blk (W6 w pt id) (w.heap.size + 2) 3 [.int .i64 0] ∧ Blk (W6 w pt id) (w.heap.size + 3) 4 [.bool false] ∧
    Blk (W6 w pt id) (w.heap.size + 4) 25 [ptr pt] ∧ Blk (W6 w pt id) (w.heap.size + 5) 23 [.int .u64 id] := by
  have a0 := Blk.new w [ptr pt] 25
  have a1 := Blk.new (w.alloc (.cells #[ptr pt] 25)) [.int .u64 id] 23
  have a2 := Blk.new ((w.alloc (.cells #[ptr pt] 25)).alloc (.cells #[.int .u64 id] 23)) [.int .i64 0] 3
  have a3 := Blk.new (((w.alloc (.cells #[ptr pt] 25)).alloc (.cells #[.int .u64 id] 23)).alloc (.cells #[.int .i64 0] 3)) [.bool false] 4
  have a4 := Blk.new ((((w.alloc (.cells #[ptr pt] 25)).alloc (.cells #[.int .u64 id] 23)).alloc (.cells #[.int .i64 0] 3)).alloc (.cells #[.bool false] 4)) [ptr pt] 25
  have a5 := Blk.new (((((w.alloc (.cells #[ptr pt] 25)).alloc (.cells #[.int .u64 id] 23)).alloc (.cells #[.int .i64 0] 3)).alloc (.cells #[.bool false] 4)).alloc (.cells #[ptr pt] 25)) [.int .u64 id] 23
  simp only [World.size_alloc] at a1 a2 a3 a4 a5
  exact ⟨((((a0.alloc _).alloc _).alloc _).alloc _).alloc _, (((a1.alloc _).alloc _).alloc _).alloc _, ((a2.alloc _).alloc _).alloc _, (a3.alloc _).alloc _, a4.alloc _, a5⟩

theorem find_w (pt gc n cap m id : Nat) (C ids : Nat → Nat) (v : Value) (w : World) (hC : ∀ c, c < n → C c ≤ m) (hM : Mask n) (hmm : m ≤ 65536) (hid : id < 18446744073709551616)
    (hR : Reads w.heap.size w pt gc n cap C v) (hz : ∃ c, c < n ∧ C c = 0)
    (hv : ∀ i, i < m → ∃ gi cap, v = .slice (some ⟨gi, 0, none⟩) m cap ∧ gi < w.heap.size ∧ w.cell? ⟨gi, i, none⟩ = some (.int .u64 (ids i))) :
    Calls Try.prog 33 #[ptr pt, .int .u64 id] w fun e w' => ∃ (c : Nat) (b : Bool), e = .returned (.tuple #[.int .i64 c, .bool b]) ∧ Found n C ids id c b ∧ Below w.heap.size w w' := by
  have hn := hM.pos
  have hn2 := hM.le
  refine (callsIn_wide (n := 9)).1 ?_
  refine callsIn_of_wp_marks Try.func33 rfl trivial ?_ rfl
  simp only [Try.ntmps33, List.size_toArray, List.length_cons, List.length_nil, Nat.reduceAdd, Nat.reduceSub, Array.replicate_succ, Array.replicate_zero, List.push_toArray, List.append_toArray, List.nil_append, List.cons_append]
  have HR := Lib.hid hR; clear hR
  have HV := Lib.hid hv; clear hv
  have HZ := Lib.hid hz; clear hz
  have HC := Lib.hid hC
  gi_wp2_with (refine ⟨trivial, ?_⟩; gi_at_call 50; refine (callsIn_wide.2 (callsIn_wide.1 (probe_in pt id _))).mono ?_; rintro e w' ⟨rfl, rfl⟩)
  change Code.wpIn _ _ _ _ _ _ (W6 w pt id)
  have hsz := W6_size w pt id
  have hB0 := W6_below w pt id
  obtain ⟨b0, b1, b2, b3, b4, b5⟩ := W6_blk w pt id
  have hR6 : Reads (W6 w pt id).heap.size (W6 w pt id) pt gc n cap C v := (HR.out.below hB0).mono hB0.size
  generalize W6 w pt id = W0 at *
  have hs0 : ∀ k, k < 6 → w.heap.size + k < W0.heap.size := by omega
  refine wpIn_rangeFunc_ownF rfl (by decide) (α := Prb n m) (gf := 58) (lb := #[.pointer (some ⟨w.heap.size + 4, 0, none⟩), .pointer (some ⟨w.heap.size + 5, 0, none⟩)]) rfl trivial (enters_of Try.func58 (by kernel_rfl) rfl)
    (encs := fun x => #[.int .i64 x.1.1, .int .i64 x.1.2]) (Kp := Below W0.heap.size) (S := fun ys => ys = prbs n m C hC (by omega) (hm n id) n) (Sp := fun pre => pre <+: prbs n m C hC (by omega) (hm n id) n) (N := n) (w0 := W0)
    (fun l J Jx W hW _ _ hY h0 => probe1_in 8 l (w.heap.size + 4) (w.heap.size + 5) W0.heap.size pt gc n cap m id C v hC hM hmm hid (by decide) (hs0 4 (by decide)) (hs0 5 (by decide)) J Jx hY W (hR6.below hW) ((hW.cell (p := ⟨w.heap.size + 4, 0, none⟩) (hs0 4 (by decide))).trans (b4.cell 0)) ((hW.cell (p := ⟨w.heap.size + 5, 0, none⟩) (hs0 5 (by decide))).trans (b5.cell 0)) h0)
    belowK_t (belowK_b (Nat.le_refl _)) (Below.refl _ _) (fun _ => rfl)
    (fun pre W => ((∀ y ∈ pre, y.1.2 ≠ 0 ∧ ids (y.1.2 - 1) ≠ id) ∧ W.cell? ⟨w.heap.size, 0, none⟩ = some (ptr pt) ∧ W.cell? ⟨w.heap.size + 1, 0, none⟩ = some (.int .u64 id) ∧ (W.cell? ⟨w.heap.size + 2, 0, none⟩ = some (.int .i64 0) ∧ W.frozen? ⟨w.heap.size + 2, 0, none⟩ = false) ∧ W.cell? ⟨w.heap.size + 3, 0, none⟩ = some (.bool false) ∧ W.frozen? ⟨w.heap.size + 3, 0, none⟩ = false) ∧ Below w.heap.size w W)
    (fun c pre W => (c = .ret ∧ ∃ pre' x b, pre = pre' ++ [x] ∧ (∀ y ∈ pre', y.1.2 ≠ 0 ∧ ids (y.1.2 - 1) ≠ id) ∧ ((b = false ∧ x.1.2 = 0) ∨ (b = true ∧ x.1.2 ≠ 0 ∧ ids (x.1.2 - 1) = id)) ∧ W.cell? ⟨w.heap.size + 2, 0, none⟩ = some (.int .i64 x.1.1) ∧ W.cell? ⟨w.heap.size + 3, 0, none⟩ = some (.bool b)) ∧ Below w.heap.size w W)
    (OwnFrom.and (Own.from (fun s A B row hs hg hr => ⟨hs.1, cell_kept hs.2.1 hg hr, cell_kept hs.2.2.1 hg hr, ⟨cell_kept hs.2.2.2.1.1 hg hr, (frozen_kept hs.2.2.2.1.1 hg hr).trans hs.2.2.2.1.2⟩, cell_kept hs.2.2.2.2.1 hg hr, (frozen_kept hs.2.2.2.2.1 hg hr).trans hs.2.2.2.2.2⟩) _) (ownFrom_below (Nat.le_refl _) (by omega)))
    (fun c => OwnFrom.and (Own.from (fun s A B row hs hg hr => by
      obtain ⟨h1, pre', x, b, h2, h3, h4, h5, h6⟩ := hs
      exact ⟨h1, pre', x, b, h2, h3, h4, cell_kept h5 hg hr, cell_kept h6 hg hr⟩) _) (ownFrom_below (Nat.le_refl _) (by omega)))
    ⟨⟨by simp, b0.cell 0, b1.cell 0, ⟨b2.cell 0, b2.frozen 0⟩, b3.cell 0, b3.frozen 0⟩, hB0⟩
    (fun x => { tmps := #[ptr pt, .int .u64 id, ptr w.heap.size, ptr (w.heap.size + 1), ptr (w.heap.size + 2), ptr (w.heap.size + 3), .int .i64 x.1.1, .int .i64 x.1.2, ptr pt, .int .u64 id, .func (.func 58) #[] #[ptr (w.heap.size + 4), ptr (w.heap.size + 5)], .int .i64 x.1.1, .int .i64 x.1.2, undef, undef, undef, undef, undef, undef, undef, undef, undef, undef, undef, undef, undef, undef], defers := [] }) ?assign ?body ?done ?stop
  case assign =>
    intro l x W K hK
    gi_wp2
    exact hK
  case body =>
    rintro l pre x W ⟨⟨hp, hct, hci, ⟨hcr, hfr⟩, hcb, hfb⟩, hB⟩ _
    have HP := Lib.hid hp; clear hp
    obtain ⟨⟨c0, i0⟩, hx1, hx2⟩ := x
    dsimp only at hx1 hx2 ⊢
    by_cases hi0 : i0 = 0
    · subst hi0
      gi_wp2
      refine ⟨(KeepsOthers.setCell _ _ _).trans (KeepsOthers.setCell _ _ _), ⟨rfl, pre, ⟨(c0, 0), hx1, hx2⟩, false, rfl, HP.out, .inl ⟨rfl, rfl⟩, ?_, ?_⟩, (hB.setCell (p := ⟨w.heap.size + 2, 0, none⟩) (by simp) _).setCell (p := ⟨w.heap.size + 3, 0, none⟩) (by simp) _⟩
      · rw [World.cell?_setCell_other _ _ _ _ (by simp)]; exact World.cell?_setCell_same' _ _ _ (by rw [hcr]; rfl)
      · exact World.cell?_setCell_same' _ _ _ (by rw [World.cell?_setCell_other _ _ _ _ (by simp), hcb]; rfl)
    · obtain ⟨i1, rfl⟩ : ∃ i1, i0 = i1 + 1 := ⟨i0 - 1, by omega⟩
      clear hi0
      have hb0 : (((i1 : Int) + 1) == 0) = false := beq_eq_false_iff_ne.2 (by omega)
      obtain ⟨gi, cap, rfl, hgi, hci'⟩ := HV.out i1 (by omega)
      have r2 := (hB.cell (p := ⟨pt, 2, none⟩) HR.out.hpt).trans HR.out.h2
      have ri := (hB.cell (p := ⟨gi, i1, none⟩) hgi).trans hci'
      have hw1 : IntKind.i64.wrap (i1 : Int) = i1 := IntWalk.i64_in _ (by omega)
      have hi1 : i1 < m := by omega
      have hi2 : (i1 : Int) < m := by omega
      clear hci'
      gi_wp2
      refine quiet_region (by kernel_rfl) (by kernel_rfl) (by kernel_rfl) ?_
      repeat (quiet_step_in (fail))
      refine wpQuietIn_nil ?_
      rintro _ ⟨nq, rfl⟩
      gi_wp2
      · have hx : ids i1 = id := by have h : ((ids i1 : Int) == (id : Int)) = true := by assumption
                                    have := eq_of_beq h; omega
        refine ⟨((keeps_drewN _ _).trans (KeepsOthers.setCell _ _ _)).trans (KeepsOthers.setCell _ _ _), ⟨rfl, pre, ⟨(c0, i1 + 1), hx1, hx2⟩, true, rfl, HP.out, .inr ⟨rfl, by simp, hx⟩, ?_, ?_⟩, ((below_drewN hB _).setCell (p := ⟨w.heap.size + 2, 0, none⟩) (by simp) _).setCell (p := ⟨w.heap.size + 3, 0, none⟩) (by simp) _⟩
        · rw [World.cell?_setCell_other _ _ _ _ (by simp)]; exact World.cell?_setCell_same' _ _ _ (by rw [(Eqv.drewN W nq).cell, hcr]; rfl)
        · exact World.cell?_setCell_same' _ _ _ (by rw [World.cell?_setCell_other _ _ _ _ (by simp), (Eqv.drewN W nq).cell, hcb]; rfl)
      · have hx : ids i1 ≠ id := by have h : ((ids i1 : Int) == (id : Int)) = false := by assumption
                                    have := beq_eq_false_iff_ne.1 h; omega
        refine ⟨keeps_drewN _ _, below_drewN (Below.refl _ _) _, ⟨fun y hy => (List.mem_append.1 hy).elim (HP.out y) (fun e => by cases List.mem_singleton.1 e; exact ⟨Nat.succ_ne_zero _, hx⟩), hct, hci, ⟨hcr, hfr⟩, hcb, hfb⟩, below_drewN hB _⟩
  case done =>
    rintro D ys W hD rfl ⟨⟨hne, _⟩, hB⟩ hK
    exfalso
    obtain ⟨c, hc, hc0⟩ := HZ.out
    have hh := hm_lt (show 0 < n by omega) id
    have hq : (hm n id + (c + n - hm n id) % n) % n = c := by
      rw [Nat.add_mod_mod, show hm n id + (c + n - hm n id) = c + n by omega, Nat.add_mod_right, Nat.mod_eq_of_lt hc]
    refine (hne (prb n m C hC (by omega) (hm n id) ((c + n - hm n id) % n)) (List.mem_map.2 ⟨_, List.mem_range.2 (Nat.mod_lt _ (by omega)), rfl⟩)).1 ?_
    simp only [prb]; rw [hq]; exact hc0
  case stop =>
    rintro D c pre W hD hpre ⟨⟨rfl, pre', x, b, rfl, hskip, hend, hr1, hr2⟩, hB⟩ hK
    gi_wp2
    refine ⟨by simp, .inl ⟨_, _, rfl, run_takeDeferred hK, ?_⟩⟩
    have d1 := cell_kept hr1 (grownBy_putObj' _ D (.deferred none)) (fun r e => by cases e; exact ⟨_, hK, rfl⟩)
    have d2 := cell_kept hr2 (grownBy_putObj' _ D (.deferred none)) (fun r e => by cases e; exact ⟨_, hK, rfl⟩)
    refine ⟨.tuple #[.int .i64 x.1.1, .bool b], by simp [results, Try.f33, go_sem, d1, d2], x.1.1, b, rfl, ?_, hB.trans (belowK_b (w := w) (Nat.le_refl _) W D _ _ (by omega) hK rfl rfl)⟩
    obtain ⟨rest, hrest⟩ := hpre
    have hlen : pre'.length < n := by
      have := congrArg List.length hrest
      simp [prbs] at this; omega
    have hget : ∀ j (h : j < (pre' ++ [x]).length), (pre' ++ [x])[j]'h = prb n m C hC (by omega) (hm n id) j := by
      intro j h
      have h2 : (prbs n m C hC (by omega) (hm n id) n)[j]? = some ((pre' ++ [x])[j]'h) := by
        rw [← hrest, List.getElem?_append_left h, List.getElem?_eq_getElem h]
      simp only [List.length_append, List.length_cons, List.length_nil] at h
      simp only [prbs, List.getElem?_map, List.getElem?_range (show j < n by omega), Option.map_some, Option.some.injEq] at h2
      exact h2.symm
    have hx : x = prb n m C hC (by omega) (hm n id) pre'.length := by
      have := hget pre'.length (by simp)
      simpa using this
    refine ⟨pre'.length, hlen, by rw [hx]; rfl, fun j hj => ?_, ?_⟩
    · have h1 := hget j (by simp; omega)
      rw [List.getElem_append_left hj] at h1
      have h2 := hskip _ (List.getElem_mem hj)
      rw [h1] at h2
      exact h2
    · have e1 : C x.1.1 = x.1.2 := by rw [hx]; rfl
      rw [e1]; exact hend

end Go.Proofs.Ytciacnnelpijeaa
