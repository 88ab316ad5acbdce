/- forest: Add. -/
import Derived.Test.YtgmnemndjjmgkaaGreatB15
import Derived.BigQuiet
import Derived.WalkSpells
import Derived.Test.YtgmnemndjjmgkaaGreatB13
import Derived.Test.YtgmnemndjjmgkaaGreatB4
import Derived.Deep.RegionHeld3
set_option linter.unusedSimpArgs false
set_option linter.unusedVariables false
/- The heap: Min, drop, Pop. -/
namespace Go.Proofs.YtgmnemndjjmgkaaGreat
open Go.RowKit
set_option maxRecDepth 10000
set_option maxHeartbeats 800000

theorem ownsRow_pre {w : World} {base : Nat} {e : TypeId} {size : Nat} {g n m cap : Nat} {xs ys : List Value} (h : w.ownsRow base e size (.slice (some ⟨g, 0, none⟩) (n + m) cap) (n + m) (xs ++ ys)) (hx : xs.length = n * size) :
    w.ownsRow base e size (.slice (some ⟨g, 0, none⟩) n cap) n xs := by
  obtain ⟨h1, h2⟩ := h
  rcases h2 with ⟨h2, _⟩ | ⟨g', cap', cur, e1, hb, hh, hn, hm, hsz, hxs⟩
  · cases h2
  · simp only [Value.slice.injEq, Option.some.injEq, Addr.mk.injEq, and_true, true_and] at e1
    obtain ⟨rfl, rfl⟩ := e1
    refine ⟨hx, .inr ⟨g, cap, cur, rfl, hb, hh, by omega, hm, hsz, ?_⟩⟩
    have := congrArg (List.take (n * size)) hxs
    have e2 : (xs ++ ys).take (n * size) = xs := by rw [← hx, List.take_left']; rfl
    rw [List.take_take, Nat.min_eq_left (Nat.mul_le_mul_right _ (by omega)), e2] at this
    exact this

section
variable {w w' : World} {ph slots n : Nat} {e : Nat → Nat × Int} {pl : Nat → Nat} {v : Value} {gp cp : Nat} {bs : Nat → Option Nat}

theorem min_no (h : HM w ph slots 0 e pl v gp cp bs) : Calls Tryz.prog 136 #[hptr ph] w fun r w' => r = .returned (.tuple #[.agg #[.int .i64 0, .int .i64 0], .bool false]) ∧ Fr [] w w' := by
  have hf0 : Fr [] w (w.alloc (.cells #[.int .i64 0, .int .i64 0] 136)) := (Fr.refl _ _).alloc _
  have HV := Lib.hid (hvalid_w (h.fr0 hf0))
  obtain ⟨a, cap, rfl⟩ := ownsRow_slice h.items
  have c2 := (h.fr0 hf0).hd.cell 2
  simp only [List.getElem?_cons_zero, List.getElem?_cons_succ] at c2
  have HF := Lib.hid hf0; clear h hf0
  go_enter Tryz.func136, Tryz.ntmps136
  go_wp2_with fail
  refine HV.out.mono ?_
  rintro _ w1 ⟨rfl, rfl⟩
  go_wp2
  refine bodyPost_ret (v := .tuple #[.agg #[.int .i64 0, .int .i64 0], .bool false]) (by simp [results, Tryz.results136, go_sem]) rfl ⟨rfl, (Fr.refl _ _).alloc _⟩

theorem min_yes (h : HM w ph slots n e pl v gp cp bs) (hn : 0 < n) : Calls Tryz.prog 136 #[hptr ph] w fun r w' => r = .returned (.tuple #[.agg #[.int .i64 ((e 0).1 : Nat), .int .i64 (e 0).2], .bool true]) ∧ Fr [] w w' := by
  have hf0 : Fr [] w (w.alloc (.cells #[.int .i64 0, .int .i64 0] 136)) := (Fr.refl _ _).alloc _
  have HV := Lib.hid (hvalid_w (h.fr0 hf0))
  obtain ⟨g, cap, rfl, _, _, q0, q1, _⟩ := ent_at (h.fr0 hf0).items hn
  have c2 := (h.fr0 hf0).hd.cell 2
  simp only [List.getElem?_cons_zero, List.getElem?_cons_succ] at c2
  simp only [Nat.zero_mul, Nat.zero_add] at q0 q1
  have t1 : ((n : Int) == 0) = false := by simp; omega
  have t2 : (0 : Int) < n := by omega
  have HF := Lib.hid hf0; clear h hf0
  generalize (e 0).1 = x at *
  generalize (e 0).2 = y at *
  clear hn
  go_enter Tryz.func136, Tryz.ntmps136
  go_wp2_with fail
  refine HV.out.mono ?_
  rintro _ w1 ⟨rfl, rfl⟩
  go_wp2
  exact bodyPost_ret (v := .tuple #[.agg #[.int .i64 x, .int .i64 y], .bool true]) (by simp [results, Tryz.results136, go_sem]) rfl ⟨rfl, (Fr.refl _ _).alloc _⟩

/-- The last entry's place is taken away. -/
theorem HM.cut {g cap : Nat} (h : HM w ph slots (n + 1) e pl (.slice (some ⟨g, 0, none⟩) (n + 1) cap) gp cp bs) :
    HM (w.setCell ⟨ph, 2, none⟩ (.slice (some ⟨g, 0, none⟩) n cap)) ph slots n e pl (.slice (some ⟨g, 0, none⟩) n cap) gp cp bs := by
  have a2 := h.ap2
  have a3 := h.ap3
  simp only [Value.ownBlock] at a2 a3
  have h1 := h.items
  rw [entC_succ'] at h1
  refine ⟨h.hd.set 2 _, ownsRow_other (ownsRow_pre h1 (entC_len n e)) _ _ a2, h.dir.other _ _ (fun e => h.ap1 e.symm), fun k b hk hb => (h.some_ k b hk hb).other _ _ (h.ap4 k b hk hb).1, h.none_, h.le, by have := h.nb; omega, h.pb, h.ap1, a2, a3, h.ap4, h.ap5⟩

theorem drop_w (h : HM w ph slots (n + 1) e pl v gp cp bs) (hk : PlOK slots (n + 1) e pl) (hp : Hp (n + 1) e) :
    Calls Tryz.prog 137 #[hptr ph, .int .i64 0] w fun r w' => r = .returned (.tuple #[]) ∧ ∃ e' pl' v' bs', HM w' ph slots n e' pl' v' gp cp bs' ∧ PlOK slots n e' pl' ∧ Hp n e' ∧ (∀ y, (∃ x, x < n ∧ e' x = y) ↔ ∃ x, x < n + 1 ∧ x ≠ 0 ∧ e x = y) ∧
      Fr (hB slots ph v gp bs) w w' ∧ ∀ b ∈ hB slots ph v' gp bs', b ∈ hB slots ph v gp bs ∨ w.heap.size ≤ b := by
  have hnb := h.nb
  have hlt := hk.lt
  have c2 := h.hd.cell 2
  simp only [List.getElem?_cons_zero, List.getElem?_cons_succ] at c2
  obtain ⟨g, cap, rfl, hcap, _, _, _, _⟩ := ent_at h.items (show 0 < n + 1 by omega)
  have hks := hk.swap (p := 0) (q := n) (by omega) (by omega)
  have hkp := hks.pop
  have hmem : ∀ y, (∃ x, x < n ∧ swpE e 0 n x = y) ↔ ∃ x, x < n + 1 ∧ x ≠ 0 ∧ e x = y := by
    intro y
    constructor
    · rintro ⟨x, hx, rfl⟩
      by_cases h0 : x = 0
      · subst h0; exact ⟨n, by omega, by omega, (swpE_p e 0 n).symm⟩
      · exact ⟨x, by omega, h0, (swpE_o h0 (by omega)).symm⟩
    · rintro ⟨x, hx, h0, rfl⟩
      by_cases h1 : x = n
      · subst h1; exact ⟨0, by omega, swpE_p e 0 x⟩
      · exact ⟨x, by omega, swpE_o h0 h1⟩
  have hdn := pop_dn hp
  have hidx : (swpE e 0 n n).1 < slots := hks.lt n (by omega)
  have HS := Lib.hid (swap_w h (p := 0) (q := n) (by omega) (by omega) hlt)
  have HK := Lib.hid (And.intro hkp (And.intro hmem (And.intro hdn hidx)))
  clear h hk hp hlt hks hkp hmem hdn hidx
  go_enter Tryz.func137, Tryz.ntmps137
  go_wp2_with fail
  refine HS.out.mono ?_
  rintro _ w1 ⟨rfl, bs1, h1, f1, s1⟩
  obtain ⟨g', cap', e1, _, _, q0, _, _⟩ := ent_at h1.items (show n < n + 1 by omega)
  simp only [Value.slice.injEq, Option.some.injEq, Addr.mk.injEq, and_true, true_and] at e1
  obtain ⟨rfl, rfl⟩ := e1
  have d2 := h1.hd.cell 2
  simp only [List.getElem?_cons_zero, List.getElem?_cons_succ] at d2
  have HP := Lib.hid (put_w h1 HK.out.2.2.2 (x := 0) (by omega) (-1) (by decide))
  have HF1 := Lib.hid (And.intro f1 s1); clear f1 s1 h1 HS c2
  generalize hix : (swpE e 0 n n).1 = ix at *
  have Hix := Lib.hid hix; clear hix
  have hn1 : (n : Int) < ((n + 1 : Nat) : Int) := by omega
  go_wp2_with fail
  refine HP.out.mono ?_
  rintro _ w2 ⟨rfl, bs2, h2, f2, s2⟩
  have hs1 := HF1.out.1.size
  have HF2 := Lib.hid (HF1.out.1.trans f2 HF1.out.2)
  have HN2 : Hid (∀ b ∈ hB slots ph (.slice (some ⟨g, 0, none⟩) (n + 1) cap) gp bs2, b ∈ hB slots ph (.slice (some ⟨g, 0, none⟩) (n + 1) cap) gp bs ∨ w.heap.size ≤ b) := Lib.hid (fun b hb => (s2 b hb).elim (HF1.out.2 b) (fun e => .inr (by omega)))
  have e2 := h2.hd.cell 2
  have z2 := h2.hd.frozen 2
  simp only [List.getElem?_cons_zero, List.getElem?_cons_succ] at e2
  have h3 := h2.cut
  have hF3 : Fr (hB slots ph (.slice (some ⟨g, 0, none⟩) (n + 1) cap) gp bs) w (w2.setCell ⟨ph, 2, none⟩ (.slice (some ⟨g, 0, none⟩) n cap)) := HF2.out.setCell _ _ (.inl (by simp [hB]))
  have H3 := Lib.hid (And.intro h3 hF3)
  clear h3 hF3 h2 f2 s2 HP d2 q0
  have hcap2 : (n : Int) ≤ cap := by omega
  by_cases h0 : 0 < n
  · have t1 : decide (0 < n) = true := decide_eq_true h0
    have HSe := Lib.hid (settle_w H3.out.1 HK.out.1 (p := 0) h0 (.inr ⟨rfl, HK.out.2.2.1⟩))
    go_wp2_with fail
    refine HSe.out.mono ?_
    rintro _ w4 ⟨rfl, e4, pl4, bs4, h4, k4, p4, m4, f4, s4⟩
    have hs3 := H3.out.2.size
    have H4 := Lib.hid (And.intro h4 (And.intro k4 (And.intro p4 m4)))
    have HF4 := Lib.hid (And.intro f4 s4)
    clear h4 k4 p4 m4 f4 s4 HSe
    go_wp2
    go_end0
    refine ⟨rfl, e4, pl4, _, bs4, H4.out.1, H4.out.2.1, H4.out.2.2.1, fun y => (H4.out.2.2.2 y).trans (HK.out.2.1 y), H3.out.2.trans HF4.out.1 (fun b hb => HN2.out b hb), fun b hb => ?_⟩
    rcases HF4.out.2 b hb with e | e
    · exact HN2.out b e
    · exact .inr (by omega)
  · have t1 : decide (0 < n) = false := decide_eq_false h0
    have hn0 : n = 0 := by omega
    have Hn0 := Lib.hid hn0; clear hn0 h0
    go_wp2
    go_end0
    exact ⟨rfl, swpE e 0 n, _, _, bs2, H3.out.1, HK.out.1, fun k hk0 hk => by have := Hn0.out; omega, HK.out.2.1, H3.out.2, HN2.out⟩
end

theorem heap_min {w : World} {ph slots n : Nat} {Q : Nat → Option Int} {l : List Nat} (h : HeapAt w ph slots Q n l) :
    Calls Tryz.prog 136 #[hptr ph] w fun r w' => Fr [] w w' ∧ ((n = 0 ∧ r = .returned (.tuple #[.agg #[.int .i64 0, .int .i64 0], .bool false])) ∨
      (0 < n ∧ ∃ i k, Q i = some k ∧ (∀ j x, Q j = some x → ¬ elt (j, x) (i, k)) ∧ r = .returned (.tuple #[.agg #[.int .i64 (i : Nat), .int .i64 k], .bool true]))) := by
  obtain ⟨e, pl, v, gp, cp, bs, hm, hk, hp, hq, rfl⟩ := h
  cases n with
  | zero =>
    refine (min_no hm).mono ?_
    rintro r w' ⟨rfl, hf⟩
    exact ⟨hf, .inl ⟨rfl, rfl⟩⟩
  | succ n =>
    refine (min_yes hm (by omega)).mono ?_
    rintro r w' ⟨rfl, hf⟩
    refine ⟨hf, .inr ⟨by omega, (e 0).1, (e 0).2, (hq _ _).2 ⟨0, by omega, rfl⟩, fun j x hx => ?_, rfl⟩⟩
    obtain ⟨p, hpn, hpe⟩ := (hq j x).1 hx
    rw [← hpe]; exact hp_min hp p hpn

theorem pop_w {w : World} {ph slots n : Nat} {Q : Nat → Option Int} {l : List Nat} (h : HeapAt w ph slots Q n l) :
    Calls Tryz.prog 88 #[hptr ph] w fun r w' => (n = 0 ∧ r = .returned (.tuple #[.agg #[.int .i64 0, .int .i64 0], .bool false]) ∧ Fr [] w w') ∨
      (0 < n ∧ ∃ i k, Q i = some k ∧ (∀ j x, Q j = some x → ¬ elt (j, x) (i, k)) ∧ r = .returned (.tuple #[.agg #[.int .i64 (i : Nat), .int .i64 k], .bool true]) ∧ ∃ l', HeapAt w' ph slots (updQ Q i none) (n - 1) l' ∧ Fr l w w' ∧ ∀ b ∈ l', b ∈ l ∨ w.heap.size ≤ b) := by
  obtain ⟨e, pl, v, gp, cp, bs, hm, hk, hp, hq, rfl⟩ := h
  have hf0 : Fr [] w (w.alloc (.cells #[.int .i64 0, .int .i64 0] 136)) := (Fr.refl _ _).alloc _
  have hbx := Blk.new w [.int .i64 0, .int .i64 0] 136
  have HBX := Lib.hid hbx; clear hbx
  cases n with
  | zero =>
    have HMn := Lib.hid (min_no (hm.fr0 hf0))
    clear hm hk hp hq hf0
    go_enter Tryz.func88, Tryz.ntmps88
    go_wp2_with fail
    refine HMn.out.mono ?_
    rintro _ w1 ⟨rfl, f1⟩
    have k1 := f1.blk HBX.out (by simp)
    have k2 := k1.alloc (.cells #[.int .i64 0, .int .i64 0] 136)
    have x0 := k2.cell 0
    have x1 := k2.cell 1
    have z0 := k2.frozen 0
    have z1 := k2.frozen 1
    have x0' := k1.cell 0
    have x1' := k1.cell 1
    have z0' := k1.frozen 0
    have z1' := k1.frozen 1
    simp only [List.getElem?_cons_zero, List.getElem?_cons_succ] at x0 x1 x0' x1'
    have hsz : w.heap.size < w1.heap.size := k1.lt
    have HF1 := Lib.hid f1
    have HK1 := Lib.hid k1; clear f1 k1 k2
    go_wp2
    have hK := ((HK1.out.set 0 (.int .i64 0)).set 1 (.int .i64 0)).alloc (.cells #[.int .i64 0, .int .i64 0] 136)
    have r0 := hK.cell 0
    have r1 := hK.cell 1
    simp only [List.set_cons_zero, List.set_cons_succ, List.getElem?_cons_zero, List.getElem?_cons_succ] at r0 r1
    refine bodyPost_ret (v := .tuple #[.agg #[.int .i64 0, .int .i64 0], .bool false]) (by simp [results, Tryz.results88, go_sem, r0, r1]) rfl ?_
    exact .inl ⟨trivial, rfl, (((((Fr.refl [] w).alloc _).trans' HF1.out).setCell _ _ (.inr (Nat.le_refl _))).setCell _ _ (.inr (Nat.le_refl _))).alloc _⟩
  | succ n =>
    have HMn := Lib.hid (min_yes (hm.fr0 hf0) (by omega))
    have HD := Lib.hid (fun (W : World) (hf : Fr [] w W) => drop_w (hm.fr0 hf) hk hp)
    have HQ := Lib.hid (And.intro hk (And.intro hp hq))
    have hlt := hm.lt
    have HLt := Lib.hid hlt; clear hlt
    clear hm hk hp hq hf0
    generalize hi : (e 0).1 = i at *
    generalize hkk : (e 0).2 = kk at *
    have HI := Lib.hid (And.intro hi hkk); clear hi hkk
    go_enter Tryz.func88, Tryz.ntmps88
    go_wp2_with fail
    refine HMn.out.mono ?_
    rintro _ w1 ⟨rfl, f1⟩
    have k1 := f1.blk HBX.out (by simp)
    have k2 := k1.alloc (.cells #[.int .i64 i, .int .i64 kk] 136)
    have hsz : w.heap.size < w1.heap.size := k1.lt
    have hF1 : Fr [] w (w1.alloc (.cells #[.int .i64 i, .int .i64 kk] 136)) := (((Fr.refl [] w).alloc _).trans' f1).alloc _
    have HD2 := Lib.hid (HD.out _ hF1)
    have b2 := Blk.new w1 [.int .i64 i, .int .i64 kk] 136
    have HB := Lib.hid (And.intro k2 (And.intro b2 hF1))
    clear f1 k1 k2 b2 hF1 HD HMn
    go_wp2_with fail
    refine HD2.out.mono ?_
    rintro _ w3 ⟨rfl, e3, pl3, v3, bs3, h3, k3, p3, m3, f3, s3⟩
    have j1 := f3.blk HB.out.1 (fun hm => by have := HLt.out _ hm; omega)
    have j2 := f3.blk HB.out.2.1 (fun hm => by have := HLt.out _ hm; omega)
    have x0 := j1.cell 0
    have x1 := j1.cell 1
    have y0 := j2.cell 0
    have y1 := j2.cell 1
    have z0 := j1.frozen 0
    have z1 := j1.frozen 1
    simp only [List.getElem?_cons_zero, List.getElem?_cons_succ] at x0 x1 y0 y1
    have hs1 := HB.out.2.2.size
    have H3 := Lib.hid (And.intro h3 (And.intro k3 (And.intro p3 m3)))
    have HF3 := Lib.hid (And.intro ((HB.out.2.2.mono (S' := hB slots ph v gp bs) (by simp)).trans' f3) (show ∀ b ∈ hB slots ph v3 gp bs3, b ∈ hB slots ph v gp bs ∨ w.heap.size + 1 < b from fun b hb => (s3 b hb).imp (fun h => h) (fun h => by simp at h; omega)))
    have HJ1 := Lib.hid j1
    clear h3 k3 p3 m3 f3 s3 j1 j2 HD2
    go_wp2
    have hK := ((HJ1.out.set 0 (.int .i64 (i : Int))).set 1 (.int .i64 kk))
    have r0 := hK.cell 0
    have r1 := hK.cell 1
    simp only [List.set_cons_zero, List.set_cons_succ, List.getElem?_cons_zero, List.getElem?_cons_succ] at r0 r1
    refine bodyPost_ret (v := .tuple #[.agg #[.int .i64 i, .int .i64 kk], .bool true]) (by simp [results, Tryz.results88, go_sem, r0, r1]) rfl ?_
    have hset : Fr [w.heap.size] w3 ((w3.setCell ⟨w.heap.size, 0, none⟩ (.int .i64 (i : Int))).setCell ⟨w.heap.size, 1, none⟩ (.int .i64 kk)) := ((Fr.refl _ _).setCell _ _ (.inl (by simp))).setCell _ _ (.inl (by simp))
    have hni : e 0 = (i, kk) := by rw [← HI.out.1, ← HI.out.2]
    refine .inr ⟨by omega, i, kk, (HQ.out.2.2 i kk).2 ⟨0, by omega, hni⟩, fun j x hx => ?_, rfl, _, ⟨e3, pl3, v3, gp, cp, bs3, H3.out.1.fr hset (fun b hb hm => ?_), H3.out.2.1, H3.out.2.2.1, fun j x => ?_, rfl⟩, HF3.out.1.trans hset (fun b hb => .inr (by simp at hb; omega)), fun b hb => (HF3.out.2 b hb).imp (fun h => h) (fun h => by omega)⟩
    · obtain ⟨p, hpn, hpe⟩ := (HQ.out.2.2 j x).1 hx
      rw [← hpe, ← hni]; exact hp_min HQ.out.2.1 p hpn
    · simp at hm; subst hm
      rcases HF3.out.2 _ hb with e | e
      · have := HLt.out _ e; omega
      · omega
    · show updQ Q i none j = some x ↔ ∃ p, p < n + 1 - 1 ∧ e3 p = (j, x)
      rw [Nat.add_sub_cancel, H3.out.2.2.2]
      constructor
      · intro hx
        have hji : j ≠ i := by rintro rfl; rw [updQ_same] at hx; cases hx
        rw [updQ_other hji] at hx
        obtain ⟨p, hpn, hpe⟩ := (HQ.out.2.2 j x).1 hx
        exact ⟨p, hpn, by rintro rfl; rw [hni] at hpe; exact hji (by simpa using (congrArg Prod.fst hpe).symm), hpe⟩
      · rintro ⟨p, hpn, hp0, hpe⟩
        have hji : j ≠ i := by
          rintro rfl
          exact hp0 (HQ.out.1.inj hpn (by omega : 0 < n + 1) (by rw [hpe, hni]))
        rw [updQ_other hji]
        exact (HQ.out.2.2 j x).2 ⟨p, hpn, hpe⟩
end Go.Proofs.YtgmnemndjjmgkaaGreat

/- The heap: New. -/
namespace Go.Proofs.YtgmnemndjjmgkaaGreat
open Go.RowKit
set_option maxRecDepth 10000
set_option maxHeartbeats 800000

theorem made_ptrs (m : Nat) : madeCells (Value.pointer none).cells m = ((List.range m).map fun k => optP ((fun _ => none : Nat → Option Nat) k)).toArray := by
  apply Array.ext
  · simp [madeCells]
  · intro i h1 h2
    simp [madeCells, Value.cells, Nat.mod_one, optP]
theorem run_make_ptrs (m : Nat) (w : World) (hn : m ≤ 1048576) : (Instr.makeSlice 215 (.int .i64 m) (.int .i64 m)).run Tryz.prog w = .ok (.slice (some ⟨w.heap.size, 0, none⟩) m m) (w.alloc (.cells ((List.range m).map fun k => optP ((fun _ => none : Nat → Option Nat) k)).toArray 219)) := by
  obtain ⟨i0, hi, hz0, hz1, hz2⟩ := info_parts (show (Tryz.prog.info? 219).map (fun i => (i.zero, i.size, i.bytes)) = some (some (.pointer none), 1, 8) by kernel_rfl)
  have h := run_make (P := Tryz.prog) w 215 219 i0 (.pointer none) Tryz.underlying215 hi hz0 .i64 .i64 m m (by omega) (by omega) (by rw [hz2]; omega) (by omega)
  rw [hz1] at h
  simp only [Int.toNat_natCast, Nat.mul_one] at h
  rw [made_ptrs] at h
  exact h

theorem hnew_w (slots : Nat) (w : World) (hs : slots ≤ 65536) :
    Calls Tryz.prog 165 #[.int .i64 slots] w fun r w' => ∃ ph, r = .returned (.tuple #[hptr ph, .int .i64 0]) ∧ ∃ l, HeapAt w' ph slots (fun _ => none) 0 l ∧ Fr [] w w' ∧ ∀ b ∈ l, w.heap.size ≤ b := by
  have hd0 : decide ((slots : Int) < 0) = false := decide_eq_false (by omega)
  have hd1 : decide ((slots : Int) > 65536) = false := decide_eq_false (by omega)
  obtain ⟨m, hm⟩ : ∃ m, m = (slots + 63) / 64 := ⟨_, rfl⟩
  have hmi : ((slots : Int) + 64 - 1) / 64 = (m : Int) := by omega
  have hmk := run_make_ptrs m w (by omega)
  have HM0 := Lib.hid hm; clear hm
  go_enter Tryz.func165, Tryz.ntmps165
  go_wp2
  go_ret2
  have hb := Blk.new (w.alloc (.cells ((List.range m).map fun k => optP ((fun _ => none : Nat → Option Nat) k)).toArray 219)) [hptr (w.heap.size + 1), .int .i64 slots, .slice none 0 0, .slice (some ⟨w.heap.size, 0, none⟩) m m] 217
  have hd := (Blk.new w ((List.range m).map fun k => optP ((fun _ => none : Nat → Option Nat) k)) 219).alloc (.cells [hptr (w.heap.size + 1), .int .i64 slots, .slice none 0 0, .slice (some ⟨w.heap.size, 0, none⟩) m m].toArray 217)
  rw [World.size_alloc] at hb
  rw [HM0.out] at hb hd ⊢
  refine ⟨w.heap.size + 1, rfl, _, ⟨fun _ => (0, 0), fun _ => 0, .slice none 0 0, w.heap.size, _, fun _ => none, ⟨hb, World.ownsRow_nil _ _ _ _, hd, fun k b _ h => (by cases h), fun _ _ _ _ _ => rfl, hs, by omega, fun _ => by omega, by omega, by simp [Value.ownBlock], by simp [Value.ownBlock], fun k b _ h => (by cases h), fun k k' b _ _ h => (by cases h)⟩, ⟨fun p hp => by omega, fun p hp => by omega, fun i hi => absurd rfl hi⟩, fun k h0 hk => by omega, fun i k => ⟨fun h => by (cases h), fun ⟨p, hp, _⟩ => by omega⟩, rfl⟩, ((Fr.refl _ _).alloc _).alloc _, fun b hb => ?_⟩
  rcases mem_hB.1 hb with rfl | rfl | hb | ⟨k, _, hb⟩
  · omega
  · omega
  · cases hb
  · cases hb
end Go.Proofs.YtgmnemndjjmgkaaGreat

/- forest: its state in memory; valid, has, Count, Len, Tree. -/
namespace Go.Proofs.YtgmnemndjjmgkaaGreat
open Go.RowKit Classical
set_option maxRecDepth 10000
set_option maxHeartbeats 800000

abbrev fptr (b : Nat) : Value := .pointer (some ⟨b, 0, none⟩)
def edV (e : Nat × Nat × Int) (t : Bool) : Value := .agg #[.int .i64 e.1, .int .i64 e.2.1, .int .i64 e.2.2, .bool t]
def edZ : Value := .agg #[.int .i64 0, .int .i64 0, .int .i64 0, .bool false]
noncomputable def mapG (G : EMap) (T : Nat → Prop) : Int → Option Value := fun k => if 0 ≤ k then (G k.toNat).map (fun e => edV e (decide (T k.toNat))) else none
theorem mapG_nat (G : EMap) (T : Nat → Prop) (s : Nat) : mapG G T s = (G s).map (fun e => edV e (decide (T s))) := by simp [mapG]
def qOf (G : EMap) : Nat → Option Int := fun i => (G i).map fun e => e.2.2
def okA : Value → Bool := fun _ => true

structure FB (w : World) (pf pl g ph mb S V : Nat) (G : EMap) (T : Nat → Prop) (key : Nat → Int) (n : Nat) : Prop where
  hd : Blk w pf 125 [.int .i64 V, .int .i64 S, fptr pl, fptr ph, .map (some mb), .int .i64 (cntT S T)]
  lct : LM w pl g (S + V) (TE S G T) key
  edges : IMap Tryz.prog 3 .i64 okA w mb (mapG G T) n
  gw : GW S V G
  keys : KeyOK S V G T key
  cn : n = cntT S (fun s => (G s).isSome = true)
  leS : S ≤ 16384
  leV : V ≤ 4096
  ne1 : pf ≠ pl
  ne2 : pf ≠ g
  ne3 : pf ≠ mb
  ne4 : pl ≠ mb
  ne5 : g ≠ mb

section
variable {w w' : World} {pf pl g ph mb S V n : Nat} {G : EMap} {T : Nat → Prop} {key : Nat → Int} {l : List Nat}
theorem FB.fr {X : List Nat} (h : FB w pf pl g ph mb S V G T key n) (hf : Fr X w w') (h1 : pf ∉ X) (h2 : pl ∉ X) (h3 : g ∉ X) (h4 : mb ∉ X) : FB w' pf pl g ph mb S V G T key n :=
  ⟨hf.blk h.hd h1, h.lct.fr hf h2 h3, h.edges.same (hf.keep mb h.edges.lt h4), h.gw, h.keys, h.cn, h.leS, h.leV, h.ne1, h.ne2, h.ne3, h.ne4, h.ne5⟩
theorem FB.fr0 (h : FB w pf pl g ph mb S V G T key n) (hf : Fr [] w w') : FB w' pf pl g ph mb S V G T key n := h.fr hf (by simp) (by simp) (by simp) (by simp)
theorem FB.lt (h : FB w pf pl g ph mb S V G T key n) : pf < w.heap.size ∧ pl < w.heap.size ∧ g < w.heap.size ∧ mb < w.heap.size := ⟨h.hd.lt, (LG.lts h.lct).1, (LG.lts h.lct).2.1, h.edges.lt⟩
theorem FB.frs (h : FB w pf pl g ph mb S V G T key n) : Frs (TE S G T) := LG.frs h.lct

@[go_sem] theorem neq_map (w : World) (r : Option Nat) : (binOp .neq 123 (.map r) (.map none)).run Tryz.prog w = .ok (.bool (!r.isNone)) w := run_neq_map_nil w _ _ _ r Tryz.underlying123
theorem fvalid_w (h : FB w pf pl g ph mb S V G T key n) : Calls Tryz.prog 87 #[fptr pf] w fun e w' => e = .returned (.bool true) ∧ w' = w := by
  have c4 := h.hd.cell 4
  simp only [List.getElem?_cons_zero, List.getElem?_cons_succ] at c4
  clear h
  go_enter Tryz.func87, Tryz.ntmps87
  go_wp2

  go_ret
  exact ⟨rfl, rfl⟩
theorem fhas_w (h : FB w pf pl g ph mb S V G T key n) (v : Int) : Calls Tryz.prog 81 #[fptr pf, .int .i64 v] w fun e w' => e = .returned (.bool (inV V v)) ∧ w' = w := by
  have c0 := h.hd.cell 0
  simp only [List.getElem?_cons_zero] at c0
  have hV := Lib.hid (fvalid_w h)
  clear h
  by_cases h1 : 0 ≤ v
  · by_cases h2 : v < V
    · have e : inV V v = true := by simp [inV, h1, h2]
      rw [e]; clear e
      go_enter Tryz.func81, Tryz.ntmps81
      go_wp2_with fail
      refine hV.out.mono ?_
      rintro _ w1 ⟨rfl, rfl⟩
      go_wp2
      go_ret
      exact ⟨rfl, rfl⟩
    · have e : inV V v = false := by simp [inV, h2]
      rw [e]; clear e
      have t2 : decide (v < V) = false := decide_eq_false h2
      go_enter Tryz.func81, Tryz.ntmps81
      go_wp2_with fail
      refine hV.out.mono ?_
      rintro _ w1 ⟨rfl, rfl⟩
      go_wp2
      go_ret
      exact ⟨rfl, rfl⟩
  · have e : inV V v = false := by simp [inV, h1]
    rw [e]; clear e
    go_enter Tryz.func81, Tryz.ntmps81
    go_wp2_with fail
    refine hV.out.mono ?_
    rintro _ w1 ⟨rfl, rfl⟩
    go_wp2
    go_ret
    exact ⟨rfl, rfl⟩
theorem fcount_w (h : FB w pf pl g ph mb S V G T key n) : Calls Tryz.prog 49 #[fptr pf] w fun e w' => e = .returned (.int .i64 ((V : Int) - cntT S T)) ∧ Fr [] w w' := by
  have c0 := h.hd.cell 0
  have c5 := h.hd.cell 5
  simp only [List.getElem?_cons_zero, List.getElem?_cons_succ] at c0 c5
  have hV := Lib.hid (fvalid_w h)
  have h1 := h.leV
  have h2 := h.leS
  have h3 := cntT_le S T
  clear h
  generalize cntT S T = q at *
  go_enter Tryz.func49, Tryz.ntmps49
  go_wp2_with fail
  refine hV.out.mono ?_
  rintro _ w1 ⟨rfl, rfl⟩
  go_wp2_with fail
  go_quiet (fail)
  go_wp2
  go_ret
  exact ⟨rfl, (Fr.refl _ _).drewN _⟩
end
end Go.Proofs.YtgmnemndjjmgkaaGreat

/- lct: Set and Key. -/
namespace Go.Proofs.YtgmnemndjjmgkaaGreat
open Go.RowKit Classical
set_option maxRecDepth 10000
set_option maxHeartbeats 800000

def setKey (n : Nat) (key : Nat → Int) (a : Int) (k : Int) : Nat → Int := fun v => if inV n a = true ∧ v = a.toNat then k else key v

def setCode (n : Nat) (a : Int) : Int := if inV n a then 0 else 3
theorem set_w {w : World} {pf g n : Nat} {E : Nat → Nat → Prop} {key : Nat → Int} {ed : Int} (h : LG w pf g n E key ed) (a : Int) (k : Int) :
    Calls Tryz.prog 167 #[.pointer (some ⟨pf, 0, none⟩), .int .i64 a, .int .i64 k] w fun e w' => e = .returned (.int .i64 (setCode n a)) ∧ LG w' pf g n E (setKey n key a k) ed ∧ Fr [g] w w' := by
  have H := Lib.hid h
  obtain ⟨hp1, hg1, hn1⟩ := LG.lts h
  obtain ⟨cap, σ, F, par, d, rt, hL, hF, hE, hk⟩ := h
  have HF := Lib.hid hF; clear hF
  have HE := Lib.hid hE; clear hE
  have HK := Lib.hid hk; clear hk
  have hLa : LctAt (w.alloc (.cells #[.int .i64 a] 3)) pf g (n + 1) cap σ ed := hL.below ((Below.refl _ w).alloc (Nat.le_refl _) _) hp1 hg1
  have hblk := Blk.new w [.int .i64 a] 3
  have hFa : Fr [] w (w.alloc (.cells #[.int .i64 a] 3)) := (Fr.refl _ _).alloc _
  have HMa := Lib.hid (LG.fr H.out hFa (by simp) (by simp))
  have hCk := check_w hLa w.heap.size 1 (fun _ => a) (by decide) (fun k hk => by
    rw [hblk.cell]
    obtain rfl : k = 0 := by omega
    rfl)
  have HCk := Lib.hid hCk; clear hCk hblk hL
  go_enter Tryz.func167, Tryz.ntmps167
  go_wp2_with fail
  refine HCk.out.mono ?_
  rintro _ w1 ⟨hcode, rfl⟩
  clear HCk
  generalize w.alloc (.cells #[.int .i64 a] 3) = w1 at *
  rcases hcode with ⟨rfl, hall⟩ | ⟨rfl, j, hj, hbad⟩
  · have va : inV n a = true := hall 0 (by decide)
    clear hall
    obtain ⟨v, rfl, hv⟩ := inV_nat va
    have Hva := Lib.hid va; clear va
    go_wp2_with fail
    refine (expose_v hLa HF.out v hv).mono ?_
    rintro _ w2 ⟨m1, τ1, l1, R1, rfl, hL1, hE1, hF1⟩
    have HS := Lib.hid (hE1.lf.set k)
    have HE1 := Lib.hid hE1; clear hE1
    have d1 := hL1.hd.cell 1
    simp only [List.getElem?_cons_zero, List.getElem?_cons_succ] at d1
    have hfz := hL1.nodes.frozen
    have a4 := hL1.nodes.c4 (v + 1) (by omega)
    obtain ⟨hL2, hF2⟩ := hL1.st4 (Fr.refl [g] w2) (i := v + 1) (by omega) k
    have HL2 := Lib.hid (show LctAt _ pf g (n + 1) cap (set1 τ1 (v + 1) k) ed from hL2); clear hL2
    have hv2 : ((v + 1 : Nat) : Int) < ((n + 1 : Nat) : Int) := by omega
    go_wp2_with fail
    refine (refresh_v HL2.out v hv HS.out.2.2.2.2 HS.out.2.2.1 HS.out.2.2.2.1).mono ?_
    rintro _ w3 ⟨rfl, hL3, hF3⟩
    have HL3 := Lib.hid hL3; clear hL3
    go_wp2
    go_ret
    rw [show setCode n (v : Int) = 0 by unfold setCode; rw [Hva.out]; rfl]
    refine ⟨rfl, ⟨cap, _, _, par, d, rt, HL3.out, HS.out.1, HE.out, fun x hx => ?_⟩, (hFa.mono (S' := [g]) (by simp)).then (hF1.then (hF2.then hF3))⟩
    rw [HS.out.2.1]
    unfold setKey
    by_cases e : x = v
    · subst e; rw [if_pos rfl, if_pos ⟨Hva.out, by simp⟩]
    · rw [if_neg (by omega), if_neg (by simp; omega), HE1.out.key]; exact HK.out x hx
  · have hva : inV n a = false := hbad
    have Hva := Lib.hid hva; clear hva hbad
    go_wp2
    go_ret
    rw [show setCode n a = 3 by unfold setCode; rw [Hva.out]; rfl]
    refine ⟨rfl, ?_, hFa.mono (by simp)⟩
    have : setKey n key a k = key := by
      funext x; unfold setKey; rw [if_neg (by simp [Hva.out])]
    rw [this]; exact HMa.out

end Go.Proofs.YtgmnemndjjmgkaaGreat

/- forest: loosen and fasten. -/
namespace Go.Proofs.YtgmnemndjjmgkaaGreat
open Go.RowKit Classical
set_option maxRecDepth 10000
set_option maxHeartbeats 1600000

theorem inV_lt {N a : Nat} (h : a < N) : inV N (a : Int) = true := by simp [inV]; omega
section
variable {w w' : World} {pl g N : Nat} {E : Nat → Nat → Prop} {key : Nat → Int}
theorem cut_ok (h : LM w pl g N E key) {a b : Nat} (ha : a < N) (hb : b < N) (he : E a b) (b' : Int) (hb' : b' = b) :
    Calls Tryz.prog 138 #[.pointer (some ⟨pl, 0, none⟩), .int .i64 a, .int .i64 b'] w fun e w' => e = .returned (.int .i64 0) ∧ LM w' pl g N (delE E a b) key ∧ Fr [pl, g] w w' := by
  subst hb'
  have h1 := cut_w h a b
  have e1 : cutCode N E a b = 0 := by unfold cutCode; rw [if_pos ⟨inV_lt ha, inV_lt hb⟩]; simp [he]
  have e2 : cutE N E a b = delE E a b := by unfold cutE; rw [if_pos e1]; rfl
  rw [e1, e2] at h1
  exact h1
theorem link_ok' (h : LM w pl g N E key) {a b : Nat} (ha : a < N) (hb : b < N) (hne : a ≠ b) (hc : ¬ Conn E a b) (b' : Int) (hb' : b' = b) :
    Calls Tryz.prog 197 #[.pointer (some ⟨pl, 0, none⟩), .int .i64 a, .int .i64 b'] w fun e w' => e = .returned (.int .i64 0) ∧ LM w' pl g N (addE E a b) key ∧ Fr [pl, g] w w' := by
  subst hb'
  exact link_ok h a b ha hb hne hc
end

section
variable {w w' : World} {pf pl g ph mb S V n : Nat} {G : EMap} {T : Nat → Prop} {key : Nat → Int} {l : List Nat}
theorem mapG_put {s : Nat} {e : Nat × Nat × Int} {T' : Nat → Prop} {v : Value} (hg : G s = some e) (hv : v = edV e (decide (T' s))) (hT : ∀ t, t ≠ s → (T t ↔ T' t)) : updM (mapG G T) s (some v) = mapG G T' := by
  funext k
  by_cases hk : k = (s : Int)
  · subst hk; rw [updM_same, mapG_nat, hg, hv]; rfl
  · rw [updM_other hk]
    unfold mapG
    by_cases h0 : 0 ≤ k
    · have : k.toNat ≠ s := by omega
      simp only [hT _ this]
    · simp only [h0, if_false]
theorem wf_nat {s : Nat} (h : s ≤ 100000) : (Lit.int .i64 (s : Int)).wf = true := by
  show (decide ((-9223372036854775808 : Int) ≤ s) && decide ((s : Int) ≤ 9223372036854775807)) = true
  simp; omega

theorem loosen_w (h : FB w pf pl g ph mb S V G T key n) {m ma mz : Nat} {y : Int} (hg : G m = some (ma, mz, y)) (ht : T m) :
    Calls Tryz.prog 89 #[fptr pf, .int .i64 m] w fun e w' => e = .returned (.tuple #[]) ∧ FB w' pf pl g ph mb S V G (fun t => T t ∧ t ≠ m) key n ∧ Fr [pf, pl, g, mb] w w' := by
  have hms := h.gw.slot _ _ hg
  have hen := h.gw.ends _ _ _ _ hg
  have hS := h.leS
  have hV := h.leV
  have hlt := h.lt
  have hcT := cntT_drop hms ht
  have hcle := cntT_le S T
  have hne := And.intro h.ne1 (And.intro h.ne2 (And.intro h.ne3 (And.intro h.ne4 h.ne5)))
  have hl0 := h.edges.run_get (t := 123) (e := 128) (z := edZ) Tryz.underlying3 Tryz.underlying123 (by kernel_rfl) rfl (wf_nat (s := m) (by omega))
  rw [mapG_nat, hg] at hl0
  simp only [Option.map_some, Option.getD_some, ht, decide_true, edV] at hl0
  have e1 : TE S G T m (S + ma) := ⟨m, ma, mz, y, hg, ht, .inl ⟨rfl, .inl rfl⟩⟩
  have e2 : delE (TE S G T) m (S + ma) m (S + mz) := ⟨⟨m, ma, mz, y, hg, ht, .inl ⟨rfl, .inr rfl⟩⟩, by omega, by omega⟩
  have c1 := (h.hd.alloc (.cells #[.int .i64 ma, .int .i64 mz, .int .i64 y, .bool true] 128)).cell 1
  have c2 := (h.hd.alloc (.cells #[.int .i64 ma, .int .i64 mz, .int .i64 y, .bool true] 128)).cell 2
  have c4 := h.hd.cell 4
  simp only [List.getElem?_cons_zero, List.getElem?_cons_succ] at c1 c2 c4
  have hw1 : IntKind.i64.wrap ((S : Int) + ma) = (S : Int) + ma := IntWalk.i64_in _ (by omega)
  have hw2 : IntKind.i64.wrap ((S : Int) + mz) = (S : Int) + mz := IntWalk.i64_in _ (by omega)
  have hf0 : Fr [] w (w.alloc (.cells #[.int .i64 ma, .int .i64 mz, .int .i64 y, .bool true] 128)) := (Fr.refl _ _).alloc _
  have hb := Blk.new w [.int .i64 ma, .int .i64 mz, .int .i64 y, .bool true] 128
  have HC1 := Lib.hid (cut_ok (h.fr0 hf0.drew).lct (a := m) (b := S + ma) (by omega) (by omega) e1 ((S : Int) + ma) (by omega))
  have H := Lib.hid h
  have E2 := Lib.hid e2
  have HB := Lib.hid (And.intro hf0 hb)
  have HN := Lib.hid (And.intro hne hlt)
  clear h e1 e2 hf0 hb hne hlt
  have x0 := HB.out.2.cell 0
  have x1 := HB.out.2.cell 1
  simp only [List.getElem?_cons_zero, List.getElem?_cons_succ] at x0 x1
  go_enter Tryz.func89, Tryz.ntmps89
  go_wp2
  go_region_held3 (fun w' => w'.cell? ⟨pf, 1, none⟩ = some (.int .i64 S) ∧ w'.cell? ⟨pf, 2, none⟩ = some (fptr pl) ∧ w'.cell? ⟨w.heap.size, 0, none⟩ = some (.int .i64 ma))
    (first
      | go_keep
      | (have N := HN.out; exact ⟨hF3.cell (by simp_all) (by simp; omega), hF3.cell (by simp_all) (by simp; omega), hF3.cell (by simp_all) (by simp; omega)⟩))
    (first
      | (go_at_call 138; refine HC1.out.mono ?_; rintro e w3 ⟨rfl, hL3, hF3⟩))
  have hlt3 := HN.out.2
  have hpf3 : Blk w3 pf _ _ := hF3.blk ((Fr.refl [] _).drew.blk (HB.out.1.blk H.out.hd (by simp)) (by simp)) (by have N := HN.out; simp; omega)
  have hbx3 : Blk w3 w.heap.size _ _ := hF3.blk ((Fr.refl [] _).drew.blk HB.out.2 (by simp)) (by simp; omega)
  have hF3' : Fr [pl, g] w w3 := (HB.out.1.drew.mono (S' := [pl, g]) (by simp)).trans' hF3
  have HC2 := Lib.hid (cut_ok (show LM w3.drew pl g (S + V) (delE (TE S G T) m (S + ma)) key from LG.fr hL3 (Fr.refl [] _).drew (by simp) (by simp)) (a := m) (b := S + mz) (by omega) (by omega) E2.out ((S : Int) + mz) (by omega))
  have d1 := hpf3.cell 1
  have d2 := hpf3.cell 2
  have y1 := hbx3.cell 1
  simp only [List.getElem?_cons_zero, List.getElem?_cons_succ] at d1 d2 y1
  have HF3 := Lib.hid (And.intro hF3' (And.intro hpf3 hbx3))
  clear hF3' hpf3 hbx3 hF3 hL3 HC1 c1 c2 x0 x1
  go_wp2
  go_region_held3 (fun w' => w'.cell? ⟨pf, 1, none⟩ = some (.int .i64 S) ∧ w'.cell? ⟨pf, 2, none⟩ = some (fptr pl) ∧ w'.cell? ⟨w.heap.size, 1, none⟩ = some (.int .i64 mz))
    (first
      | go_keep
      | (have N := HN.out; exact ⟨hF4.cell (by simp_all) (by simp; omega), hF4.cell (by simp_all) (by simp; omega), hF4.cell (by simp_all) (by simp; omega)⟩))
    (first
      | (go_at_call 138; refine HC2.out.mono ?_; rintro e w4 ⟨rfl, hL4, hF4⟩))
  have hpf4 : Blk w4 pf _ _ := hF4.blk ((Fr.refl [] _).drew.blk HF3.out.2.1 (by simp)) (by have N := HN.out; simp; omega)
  have hbx4 : Blk w4 w.heap.size _ _ := hF4.blk ((Fr.refl [] _).drew.blk HF3.out.2.2 (by simp)) (by simp; omega)
  have hF4' : Fr [pl, g] w w4 := (HF3.out.1.drew).trans' hF4
  rw [te_del H.out.gw.slot hg] at hL4
  have y3 := hbx4.cell 3
  have z3 := hbx4.frozen 3
  simp only [List.getElem?_cons_zero, List.getElem?_cons_succ] at y3
  have hbx5 := hbx4.set 3 (.bool false)
  have hpf5 := hpf4.other ⟨w.heap.size, 3, none⟩ (.bool false) (by show pf ≠ w.heap.size; omega)
  have HL4 := Lib.hid (And.intro hL4 hF4')
  have HX5 := Lib.hid (And.intro hpf5 hbx5)
  clear hL4 hF4' hpf4 hbx4 hpf5 hbx5 hF4 HC2 d1 d2 y1
  go_wp2
  have HS5 := Lib.hid (show Fr [w.heap.size] w4 (w4.setCell ⟨w.heap.size, 3, none⟩ (.bool false)) from (Fr.refl _ _).setCell _ _ (.inl (by simp)))
  generalize w4.setCell ⟨w.heap.size, 3, none⟩ (.bool false) = w5 at *
  clear y3 z3
  have hI5 : IMap Tryz.prog 3 .i64 okA w5 mb (mapG G T) n := H.out.edges.same (by
    rw [HS5.out.keep mb (by have := HL4.out.2.size; omega) (by simp; omega), HL4.out.2.keep mb (by omega) (by have N := HN.out; simp; omega)])
  have f4 := HX5.out.1.cell 4
  have y0 := HX5.out.2.cell 0
  have y1 := HX5.out.2.cell 1
  have y2 := HX5.out.2.cell 2
  have y3 := HX5.out.2.cell 3
  simp only [List.set_cons_succ, List.set_cons_zero, List.getElem?_cons_zero, List.getElem?_cons_succ] at f4 y0 y1 y2 y3
  have HI5 := Lib.hid hI5; clear hI5
  refine region_one 6 (fun w' => IMap Tryz.prog 3 .i64 okA w' mb (mapG G (fun t => T t ∧ t ≠ m)) n ∧ Fr [mb] w5 w') (by kernel_rfl) (by kernel_rfl) (by kernel_rfl) ?_
  iterate 6 (refine gWalk_pre (by decide) (fun K hK => ?_); go_simp; refine hK _ ?_; clear hK K)
  refine gWalk_write rfl undef (fun w' hw' => ?_) ?_
  · obtain ⟨nq, rfl⟩ := hw'
    obtain ⟨w6, hrun, hI6, hF6⟩ := (HI5.out.same (w' := w5.drewN nq) rfl).put (t := 123) (e := 128) Tryz.underlying3 Tryz.underlying123 (by rw [H.out.cn]; unfold maxLen; have := cntT_le S (fun s => (G s).isSome = true); omega) (wf_nat (s := m) (by omega)) (v := .agg #[.int .i64 ma, .int .i64 mz, .int .i64 y, .bool false]) rfl
    rw [mapG_nat, hg, mapG_put (T' := fun t => T t ∧ t ≠ m) hg (by simp [edV]) (fun t ht => by simp [ht])] at hI6
    go_simp
    exact ⟨hI6, (((Fr.refl [mb] w5).drewN nq)).trans' hF6⟩
  refine gWalk_nil ?_
  rintro w6 ⟨hI6, hF6⟩
  have hpf6 := hF6.blk HX5.out.1 (by have N := HN.out; simp; omega)
  rw [← hcT] at hpf6
  generalize hz : cntT S (fun t => T t ∧ t ≠ m) = z at *
  have f5 : w6.cell? ⟨pf, 5, none⟩ = some (.int .i64 ((z : Int) + 1)) := hpf6.cell 5
  have q5 := hpf6.frozen 5
  have hw5 : IntKind.i64.wrap ((z : Int) + 1 - 1) = (z : Int) := by rw [show (z : Int) + 1 - 1 = z by omega]; exact IntWalk.i64_in _ (by omega)
  have hpf7 := hpf6.set 5 (.int .i64 (z : Int))
  have HP7 := Lib.hid hpf7
  have HI6 := Lib.hid (And.intro hI6 hF6)
  have HZ := Lib.hid hz
  clear hpf6 hpf7 hI6 hF6 hz f4 y0 y1 y2 y3
  go_wp2
  go_end0
  have e7 : (z : Int) + 1 - 1 = z := by omega
  have hF7 : Fr [pf] w6 (w6.setCell ⟨pf, 5, none⟩ (.int .i64 (z : Int))) := (Fr.refl _ _).setCell _ _ (.inl (by simp))
  have N := HN.out
  have s4 := HL4.out.2.size
  have hF47 : Fr [w.heap.size, mb, pf] w4 (w6.setCell ⟨pf, 5, none⟩ (.int .i64 (z : Int))) :=
    ((HS5.out.mono (fun q hq => .inl (by simp at hq ⊢; exact .inl hq))).trans' (HI6.out.2.mono (fun q hq => .inl (by simp at hq ⊢; exact .inr (.inl hq))))).trans' (hF7.mono (fun q hq => .inl (by simp at hq ⊢; exact .inr (.inr hq))))
  try rw [e7]
  refine ⟨rfl, ⟨?_, LG.fr HL4.out.1 hF47 (by simp; omega) (by simp; omega), HI6.out.1.same (hF7.keep mb HI6.out.1.lt (by simp; omega)), H.out.gw, ⟨fun t a b x h1 h2 => H.out.keys.slot t a b x h1 h2.1, H.out.keys.vert⟩, H.out.cn, H.out.leS, H.out.leV, H.out.ne1, H.out.ne2, H.out.ne3, H.out.ne4, H.out.ne5⟩,
    (HL4.out.2.mono (fun q hq => .inl (by simp at hq ⊢; omega))).trans hF47 (fun q hq => by simp at hq ⊢; omega)⟩
  rw [HZ.out]
  exact HP7.out

theorem set_ok {w : World} {pl g N : Nat} {E : Nat → Nat → Prop} {key : Nat → Int} (h : LM w pl g N E key) {a : Nat} (ha : a < N) (k : Int) :
    Calls Tryz.prog 167 #[.pointer (some ⟨pl, 0, none⟩), .int .i64 a, .int .i64 k] w fun e w' => e = .returned (.int .i64 0) ∧ LM w' pl g N E (setKey N key a k) ∧ Fr [pl, g] w w' := by
  refine (set_w h a k).mono ?_
  rintro e w' ⟨rfl, h1, h2⟩
  exact ⟨by unfold setCode; rw [inV_lt ha]; rfl, h1, h2.mono (fun q hq => .inl (by simp at hq ⊢; exact .inr hq))⟩
theorem setKey_same {N a : Nat} (ha : a < N) (key : Nat → Int) (k : Int) : setKey N key a k a = k := by
  unfold setKey; rw [if_pos ⟨inV_lt ha, by simp⟩]
theorem setKey_other {N a v : Nat} (key : Nat → Int) (k : Int) (hv : v ≠ a) : setKey N key a k v = key v := by
  unfold setKey; rw [if_neg (by simp; omega)]

theorem fasten_w (h : FB w pf pl g ph mb S V G T key n) {m ma mz : Nat} {y : Int} (hg : G m = some (ma, mz, y)) (ht : ¬ T m) (hc : ¬ Cx G T ma mz) :
    Calls Tryz.prog 161 #[fptr pf, .int .i64 m] w fun e w' => e = .returned (.tuple #[]) ∧ FB w' pf pl g ph mb S V G (fun t => T t ∨ t = m) (setKey (S + V) key m y) n ∧ Fr [pf, pl, g, mb] w w' := by
  have hms := h.gw.slot _ _ hg
  have hen := h.gw.ends _ _ _ _ hg
  have hS := h.leS
  have hV := h.leV
  have hlt := h.lt
  have hcT := cntT_put hms ht
  have hcle := cntT_le S T
  have hne := And.intro h.ne1 (And.intro h.ne2 (And.intro h.ne3 (And.intro h.ne4 h.ne5)))
  have hl0 := h.edges.run_get (t := 123) (e := 128) (z := edZ) Tryz.underlying3 Tryz.underlying123 (by kernel_rfl) rfl (wf_nat (s := m) (by omega))
  rw [mapG_nat, hg] at hl0
  simp only [Option.map_some, Option.getD_some, ht, decide_false, edV] at hl0
  have hfr := h.frs
  have n1 : ¬ Conn (TE S G T) m (S + ma) := te_alone ht hms (by omega) hfr
  have n2 : ¬ Conn (TE S G T) m (S + mz) := te_alone ht hms (by omega) hfr
  have n3 : ¬ Conn (TE S G T) (S + ma) (S + mz) := fun e => hc ((te_iff h.gw.slot hfr).1 e)
  have e2 : Frs (addE (TE S G T) m (S + ma)) → ¬ Conn (addE (TE S G T) m (S + ma)) m (S + mz) := by
    intro h' e
    rcases (conn_add hfr h' _ _).1 e with e | ⟨_, e⟩ | ⟨_, e⟩
    · exact n2 e
    · exact n3 e
    · exact n2 e
  have c1 := (h.hd.alloc (.cells #[.int .i64 ma, .int .i64 mz, .int .i64 y, .bool false] 128)).cell 1
  have c2 := (h.hd.alloc (.cells #[.int .i64 ma, .int .i64 mz, .int .i64 y, .bool false] 128)).cell 2
  have c4 := h.hd.cell 4
  simp only [List.getElem?_cons_zero, List.getElem?_cons_succ] at c1 c2 c4
  have hw1 : IntKind.i64.wrap ((S : Int) + ma) = (S : Int) + ma := IntWalk.i64_in _ (by omega)
  have hw2 : IntKind.i64.wrap ((S : Int) + mz) = (S : Int) + mz := IntWalk.i64_in _ (by omega)
  have hf0 : Fr [] w (w.alloc (.cells #[.int .i64 ma, .int .i64 mz, .int .i64 y, .bool false] 128)) := (Fr.refl _ _).alloc _
  have hb := Blk.new w [.int .i64 ma, .int .i64 mz, .int .i64 y, .bool false] 128
  have HC0 := Lib.hid (set_ok (h.fr0 hf0.drew).lct (a := m) (by omega) y)
  have H := Lib.hid h
  have E1 := Lib.hid n1
  have E2 := Lib.hid e2
  have HB := Lib.hid (And.intro hf0 hb)
  have HN := Lib.hid (And.intro hne hlt)
  clear h e2 n1 n2 n3 hf0 hb hne hlt hfr hc
  have x2 := HB.out.2.cell 2
  simp only [List.getElem?_cons_zero, List.getElem?_cons_succ] at x2
  go_enter Tryz.func161, Tryz.ntmps161
  go_wp2
  go_region_held3 (fun w' => w'.cell? ⟨pf, 2, none⟩ = some (fptr pl) ∧ w'.cell? ⟨w.heap.size, 2, none⟩ = some (.int .i64 y))
    (first
      | go_keep
      | (have N := HN.out; exact ⟨hF2.cell (by simp_all) (by simp; omega), hF2.cell (by simp_all) (by simp; omega)⟩))
    (first
      | (go_at_call 167; refine HC0.out.mono ?_; rintro e w2 ⟨rfl, hL2, hF2⟩))
  have hlt3 := HN.out.2
  have hpf2 : Blk w2 pf _ _ := hF2.blk ((Fr.refl [] _).drew.blk (HB.out.1.blk H.out.hd (by simp)) (by simp)) (by have N := HN.out; simp; omega)
  have hbx2 : Blk w2 w.heap.size _ _ := hF2.blk ((Fr.refl [] _).drew.blk HB.out.2 (by simp)) (by simp; omega)
  have hF2' : Fr [pl, g] w w2 := (HB.out.1.drew.mono (S' := [pl, g]) (by simp)).trans' hF2
  have HC1 := Lib.hid (link_ok' (show LM w2.drew pl g (S + V) (TE S G T) (setKey (S + V) key m y) from LG.fr hL2 (Fr.refl [] _).drew (by simp) (by simp)) (a := m) (b := S + ma) (by omega) (by omega) (by omega) E1.out ((S : Int) + ma) (by omega))
  have d1 := hpf2.cell 1
  have d2 := hpf2.cell 2
  have y1 := hbx2.cell 0
  simp only [List.getElem?_cons_zero, List.getElem?_cons_succ] at d1 d2 y1
  have HF2 := Lib.hid (And.intro hF2' (And.intro hpf2 hbx2))
  clear hF2' hpf2 hbx2 hF2 hL2 HC0 c1 c2 x2
  go_wp2
  go_region_held3 (fun w' => w'.cell? ⟨pf, 1, none⟩ = some (.int .i64 S) ∧ w'.cell? ⟨pf, 2, none⟩ = some (fptr pl) ∧ w'.cell? ⟨w.heap.size, 0, none⟩ = some (.int .i64 ma))
    (first
      | go_keep
      | (have N := HN.out; exact ⟨hF3.cell (by simp_all) (by simp; omega), hF3.cell (by simp_all) (by simp; omega), hF3.cell (by simp_all) (by simp; omega)⟩))
    (first
      | (go_at_call 197; refine HC1.out.mono ?_; rintro e w3 ⟨rfl, hL3, hF3⟩))
  have hpf3 : Blk w3 pf _ _ := hF3.blk ((Fr.refl [] _).drew.blk HF2.out.2.1 (by simp)) (by have N := HN.out; simp; omega)
  have hbx3 : Blk w3 w.heap.size _ _ := hF3.blk ((Fr.refl [] _).drew.blk HF2.out.2.2 (by simp)) (by simp; omega)
  have hF3' : Fr [pl, g] w w3 := (HF2.out.1.drew).trans' hF3
  have hL3' : LM w3.drew pl g (S + V) (addE (TE S G T) m (S + ma)) (setKey (S + V) key m y) := LG.fr hL3 (Fr.refl [] _).drew (by simp) (by simp)
  have HC2 := Lib.hid (link_ok' hL3' (a := m) (b := S + mz) (by omega) (by omega) (by omega) (E2.out hL3'.frs) ((S : Int) + mz) (by omega))
  have d1 := hpf3.cell 1
  have d2 := hpf3.cell 2
  have y1 := hbx3.cell 1
  simp only [List.getElem?_cons_zero, List.getElem?_cons_succ] at d1 d2 y1
  have HF3 := Lib.hid (And.intro hF3' (And.intro hpf3 hbx3))
  clear hF3' hpf3 hbx3 hF3 hL3 hL3' HC1
  go_wp2
  go_region_held3 (fun w' => w'.cell? ⟨pf, 1, none⟩ = some (.int .i64 S) ∧ w'.cell? ⟨pf, 2, none⟩ = some (fptr pl) ∧ w'.cell? ⟨w.heap.size, 1, none⟩ = some (.int .i64 mz))
    (first
      | go_keep
      | (have N := HN.out; exact ⟨hF4.cell (by simp_all) (by simp; omega), hF4.cell (by simp_all) (by simp; omega), hF4.cell (by simp_all) (by simp; omega)⟩))
    (first
      | (go_at_call 197; refine HC2.out.mono ?_; rintro e w4 ⟨rfl, hL4, hF4⟩))
  have hpf4 : Blk w4 pf _ _ := hF4.blk ((Fr.refl [] _).drew.blk HF3.out.2.1 (by simp)) (by have N := HN.out; simp; omega)
  have hbx4 : Blk w4 w.heap.size _ _ := hF4.blk ((Fr.refl [] _).drew.blk HF3.out.2.2 (by simp)) (by simp; omega)
  have hF4' : Fr [pl, g] w w4 := (HF3.out.1.drew).trans' hF4
  rw [te_add hg] at hL4
  have y3 := hbx4.cell 3
  have z3 := hbx4.frozen 3
  simp only [List.getElem?_cons_zero, List.getElem?_cons_succ] at y3
  have hbx5 := hbx4.set 3 (.bool true)
  have hpf5 := hpf4.other ⟨w.heap.size, 3, none⟩ (.bool true) (by show pf ≠ w.heap.size; omega)
  have HL4 := Lib.hid (And.intro hL4 hF4')
  have HX5 := Lib.hid (And.intro hpf5 hbx5)
  clear hL4 hF4' hpf4 hbx4 hpf5 hbx5 hF4 HC2 d1 d2 y1
  go_wp2
  have HS5 := Lib.hid (show Fr [w.heap.size] w4 (w4.setCell ⟨w.heap.size, 3, none⟩ (.bool true)) from (Fr.refl _ _).setCell _ _ (.inl (by simp)))
  generalize w4.setCell ⟨w.heap.size, 3, none⟩ (.bool true) = w5 at *
  clear y3 z3
  have hI5 : IMap Tryz.prog 3 .i64 okA w5 mb (mapG G T) n := H.out.edges.same (by
    rw [HS5.out.keep mb (by have := HL4.out.2.size; omega) (by simp; omega), HL4.out.2.keep mb (by omega) (by have N := HN.out; simp; omega)])
  have f4 := HX5.out.1.cell 4
  have y0 := HX5.out.2.cell 0
  have y1 := HX5.out.2.cell 1
  have y2 := HX5.out.2.cell 2
  have y3 := HX5.out.2.cell 3
  simp only [List.set_cons_succ, List.set_cons_zero, List.getElem?_cons_zero, List.getElem?_cons_succ] at f4 y0 y1 y2 y3
  have HI5 := Lib.hid hI5; clear hI5
  refine region_one 6 (fun w' => IMap Tryz.prog 3 .i64 okA w' mb (mapG G (fun t => T t ∨ t = m)) n ∧ Fr [mb] w5 w') (by kernel_rfl) (by kernel_rfl) (by kernel_rfl) ?_
  iterate 6 (refine gWalk_pre (by decide) (fun K hK => ?_); go_simp; refine hK _ ?_; clear hK K)
  refine gWalk_write rfl undef (fun w' hw' => ?_) ?_
  · obtain ⟨nq, rfl⟩ := hw'
    obtain ⟨w6, hrun, hI6, hF6⟩ := (HI5.out.same (w' := w5.drewN nq) rfl).put (t := 123) (e := 128) Tryz.underlying3 Tryz.underlying123 (by rw [H.out.cn]; unfold maxLen; have := cntT_le S (fun s => (G s).isSome = true); omega) (wf_nat (s := m) (by omega)) (v := .agg #[.int .i64 ma, .int .i64 mz, .int .i64 y, .bool true]) rfl
    rw [mapG_nat, hg, mapG_put (T' := fun t => T t ∨ t = m) hg (by simp [edV]) (fun t ht => by simp [ht])] at hI6
    go_simp
    exact ⟨hI6, (((Fr.refl [mb] w5).drewN nq)).trans' hF6⟩
  refine gWalk_nil ?_
  rintro w6 ⟨hI6, hF6⟩
  have hpf6 := hF6.blk HX5.out.1 (by have N := HN.out; simp; omega)
  generalize hz : cntT S T = z at *
  have f5 : w6.cell? ⟨pf, 5, none⟩ = some (.int .i64 (z : Int)) := hpf6.cell 5
  have q5 := hpf6.frozen 5
  have hw5 : IntKind.i64.wrap ((z : Int) + 1) = (z : Int) + 1 := IntWalk.i64_in _ (by omega)
  have hpf7 := hpf6.set 5 (.int .i64 ((z : Int) + 1))
  have HP7 := Lib.hid hpf7
  have HI6 := Lib.hid (And.intro hI6 hF6)
  have HZ := Lib.hid (And.intro hz hcT)
  clear hpf6 hpf7 hI6 hF6 hz hcT f4 y0 y1 y2 y3
  go_wp2
  go_end0
  have hF7 : Fr [pf] w6 (w6.setCell ⟨pf, 5, none⟩ (.int .i64 ((z : Int) + 1))) := (Fr.refl _ _).setCell _ _ (.inl (by simp))
  have N := HN.out
  have s4 := HL4.out.2.size
  have hF47 : Fr [w.heap.size, mb, pf] w4 (w6.setCell ⟨pf, 5, none⟩ (.int .i64 ((z : Int) + 1))) :=
    ((HS5.out.mono (fun q hq => .inl (by simp at hq ⊢; exact .inl hq))).trans' (HI6.out.2.mono (fun q hq => .inl (by simp at hq ⊢; exact .inr (.inl hq))))).trans' (hF7.mono (fun q hq => .inl (by simp at hq ⊢; exact .inr (.inr hq))))
  refine ⟨rfl, ⟨?_, LG.fr HL4.out.1 hF47 (by simp; omega) (by simp; omega), HI6.out.1.same (hF7.keep mb HI6.out.1.lt (by simp; omega)), H.out.gw, ⟨fun t a b x h1 h2 => ?_, fun v hv => ?_⟩, H.out.cn, H.out.leS, H.out.leV, H.out.ne1, H.out.ne2, H.out.ne3, H.out.ne4, H.out.ne5⟩,
    (HL4.out.2.mono (fun q hq => .inl (by simp at hq ⊢; omega))).trans hF47 (fun q hq => by simp at hq ⊢; omega)⟩
  · have e8 := HZ.out.2
    rw [e8]
    exact HP7.out
  · rcases h2 with h2 | rfl
    · rw [setKey_other _ _ (by rintro rfl; exact ht h2)]
      exact H.out.keys.slot t a b x h1 h2
    · rw [setKey_same (by omega)]
      rw [hg] at h1; simp only [Option.some.injEq, Prod.mk.injEq] at h1
      exact h1.2.2
  · rw [setKey_other _ _ (by omega)]
    exact H.out.keys.vert v hv
end
end Go.Proofs.YtgmnemndjjmgkaaGreat

namespace Go.Proofs.YtgmnemndjjmgkaaGreat
open Go.RowKit Classical
set_option maxRecDepth 10000
set_option maxHeartbeats 1600000

/-- A forest of so many slots and vertices, with these edges. -/
def FAt (w : World) (pf S V : Nat) (G : EMap) (L : List Nat) : Prop :=
  ∃ pl g ph mb l key n, FB w pf pl g ph mb S V G (isTree G) key n ∧ HeapAt w ph S (qOf G) n l ∧ (∀ b ∈ l, b ≠ pf ∧ b ≠ pl ∧ b ≠ g ∧ b ≠ mb) ∧ L = pf :: pl :: g :: mb :: l

noncomputable def addCode (S V : Nat) (G : EMap) (slot a b : Int) : Int :=
  if inV S slot = true ∧ inV V a = true ∧ inV V b = true then (if a = b then 9 else if (G slot.toNat).isSome = true then 6 else 0) else 3
noncomputable def addG (S V : Nat) (G : EMap) (slot a b x : Int) : EMap := if addCode S V G slot a b = 0 then updG G slot.toNat (some (a.toNat, b.toNat, x)) else G

section
variable {w w' : World} {pf pl g ph mb S V n : Nat} {G : EMap} {T T' : Nat → Prop} {key : Nat → Int} {l L : List Nat}
theorem FAt.lt (h : FAt w pf S V G L) : ∀ b ∈ L, b < w.heap.size := by
  obtain ⟨pl, g, ph, mb, l, key, n, h1, h2, h3, rfl⟩ := h
  have := h1.lt
  intro b hb
  simp only [List.mem_cons] at hb
  rcases hb with rfl | rfl | rfl | rfl | hb
  · exact this.1
  · exact this.2.1
  · exact this.2.2.1
  · exact this.2.2.2
  · exact h2.lt b hb
theorem FAt.fr {X : List Nat} (h : FAt w pf S V G L) (hf : Fr X w w') (hx : ∀ b ∈ L, b ∉ X) : FAt w' pf S V G L := by
  obtain ⟨pl, g, ph, mb, l, key, n, h1, h2, h3, rfl⟩ := h
  exact ⟨pl, g, ph, mb, l, key, n, h1.fr hf (hx _ (by simp)) (hx _ (by simp)) (hx _ (by simp)) (hx _ (by simp)), h2.fr hf (fun b hb => hx b (by simp [hb])), h3, rfl⟩
theorem FB.congrT (h : FB w pf pl g ph mb S V G T key n) (hT : ∀ t, T t ↔ T' t) : FB w pf pl g ph mb S V G T' key n := by
  have : T = T' := funext fun t => propext (hT t)
  rw [← this]; exact h
theorem mapG_new {s : Nat} {e : Nat × Nat × Int} (ht : ¬ T s) : updM (mapG G T) s (some (edV e false)) = mapG (updG G s (some e)) T := by
  funext k
  by_cases hk : k = (s : Int)
  · subst hk; rw [updM_same, mapG_nat, updG_same]; simp [ht]
  · rw [updM_other hk]
    unfold mapG
    by_cases h0 : 0 ≤ k
    · rw [updG_other (by omega)]
    · simp only [h0, if_false]
theorem qOf_put {s : Nat} {e : Nat × Nat × Int} : updQ (qOf G) s (some e.2.2) = qOf (updG G s (some e)) := by
  funext k
  by_cases hk : k = s
  · subst hk; rw [updQ_same]; simp [qOf, updG_same]
  · rw [updQ_other hk]; simp [qOf, updG_other hk]
theorem cnt_put {s : Nat} {e : Nat × Nat × Int} (hs : s < S) (h0 : G s = none) : cntT S (fun t => (G t).isSome = true) + 1 = cntT S (fun t => (updG G s (some e) t).isSome = true) :=
  cntT_one hs (by simp [updG_same]) (by simp [h0]) (fun x hx => by rw [updG_other hx])

/-- The edge is in the map, and not in the forest. -/
theorem FB.new (h : FB w pf pl g ph mb S V G T key n) {s a b : Nat} {x : Int} (h0 : G s = none) (ht : ¬ T s) (hs : s < S) (ha : a < V) (hb : b < V) (hab : a ≠ b) (hx : -9223372036854775808 ≤ x ∧ x ≤ 9223372036854775807)
    {X : List Nat} (hf : Fr X w w') (h1 : pf ∉ X) (h2 : pl ∉ X) (h3 : g ∉ X) (hI : IMap Tryz.prog 3 .i64 okA w' mb (mapG (updG G s (some (a, b, x))) T) (n + 1)) :
    FB w' pf pl g ph mb S V (updG G s (some (a, b, x))) T key (n + 1) := by
  have e : TE S (updG G s (some (a, b, x))) T = TE S G T := te_congr (fun _ => Iff.rfl) (fun t ht' => by rw [updG_other]; rintro rfl; exact ht ht')
  refine ⟨hf.blk h.hd h1, ?_, hI, h.gw.put hs ha hb hab hx, ⟨fun t c d y h4 h5 => ?_, h.keys.vert⟩, ?_, h.leS, h.leV, h.ne1, h.ne2, h.ne3, h.ne4, h.ne5⟩
  · rw [e]; exact h.lct.fr hf h2 h3
  · rw [updG_other (by rintro rfl; exact ht h5)] at h4
    exact h.keys.slot t c d y h4 h5
  · rw [h.cn, cnt_put hs h0]
end

section
variable {w w' : World} {pf pl g ph mb S V n : Nat} {G : EMap} {T T' : Nat → Prop} {key : Nat → Int} {l L : List Nat}
/-- A number is out of its range. -/
theorem fadd_bad (h : FB w pf pl g ph mb S V G T key n) (slot a b x : Int) (hn : ¬ (inV S slot = true ∧ inV V a = true ∧ inV V b = true)) :
    Calls Tryz.prog 114 #[fptr pf, .int .i64 slot, .int .i64 a, .int .i64 b, .int .i64 x] w fun e w' => e = .returned (.int .i64 3) ∧ w' = w := by
  have c1 := h.hd.cell 1
  simp only [List.getElem?_cons_zero, List.getElem?_cons_succ] at c1
  have HV := Lib.hid (fvalid_w h)
  by_cases s1 : 0 ≤ slot
  · by_cases s2 : slot < S
    · have s3 : decide (slot ≥ (S : Int)) = false := decide_eq_false (by omega)
      cases ha : inV V a with
      | false =>
        have HA := fhas_w h a
        rw [ha] at HA
        have HA := Lib.hid HA
        clear h hn
        go_enter Tryz.func114, Tryz.ntmps114
        go_wp2_with fail
        refine HV.out.mono ?_
        rintro _ w1 ⟨rfl, rfl⟩
        go_wp2_with fail
        refine HA.out.mono ?_
        rintro _ w1 ⟨rfl, rfl⟩
        go_wp2
        go_ret
        exact ⟨rfl, rfl⟩
      | true =>
        have hb : inV V b = false := by
          cases hb : inV V b with
          | false => rfl
          | true => exact absurd ⟨by simp [inV, s1, s2], ha, hb⟩ hn
        have HA := fhas_w h a
        rw [ha] at HA
        have HA := Lib.hid HA
        have HB := fhas_w h b
        rw [hb] at HB
        have HB := Lib.hid HB
        clear h hn
        go_enter Tryz.func114, Tryz.ntmps114
        go_wp2_with fail
        refine HV.out.mono ?_
        rintro _ w1 ⟨rfl, rfl⟩
        go_wp2_with fail
        refine HA.out.mono ?_
        rintro _ w1 ⟨rfl, rfl⟩
        go_wp2_with fail
        refine HB.out.mono ?_
        rintro _ w1 ⟨rfl, rfl⟩
        go_wp2
        go_ret
        exact ⟨rfl, rfl⟩
    · have s3 : decide (slot ≥ (S : Int)) = true := decide_eq_true (by omega)
      have s4 : (S : Int) ≤ slot := by omega
      clear h hn
      go_enter Tryz.func114, Tryz.ntmps114
      go_wp2_with fail
      refine HV.out.mono ?_
      rintro _ w1 ⟨rfl, rfl⟩
      go_wp2
      go_ret
      exact ⟨rfl, rfl⟩
  · have s3 : slot < 0 := by omega
    clear h hn
    go_enter Tryz.func114, Tryz.ntmps114
    go_wp2_with fail
    refine HV.out.mono ?_
    rintro _ w1 ⟨rfl, rfl⟩
    go_wp2
    go_ret
    exact ⟨rfl, rfl⟩

/-- The ends are the same vertex, or the slot has an edge. -/
theorem fadd_no (h : FB w pf pl g ph mb S V G T key n) {s a b : Nat} (hs : s < S) (ha : a < V) (hb : b < V) (x : Int) (hn : a = b ∨ (a ≠ b ∧ (G s).isSome = true)) :
    Calls Tryz.prog 114 #[fptr pf, .int .i64 s, .int .i64 a, .int .i64 b, .int .i64 x] w fun e w' => e = .returned (.int .i64 (if a = b then 9 else 6)) ∧ Fr [] w w' := by
  have c1 := h.hd.cell 1
  have c4 := h.hd.cell 4
  simp only [List.getElem?_cons_zero, List.getElem?_cons_succ] at c1 c4
  have HV := Lib.hid (fvalid_w h)
  have HA := fhas_w h a
  rw [inV_lt ha] at HA
  have HA := Lib.hid HA
  have HB := fhas_w h b
  rw [inV_lt hb] at HB
  have HB := Lib.hid HB
  have s1 : (0 : Int) ≤ s := by omega
  have s2 : (s : Int) < S := by omega
  have s3 : decide (S ≤ s) = false := decide_eq_false (by omega)
  by_cases hab : a = b
  · rw [if_pos hab]
    subst hab
    clear h hn
    go_enter Tryz.func114, Tryz.ntmps114
    go_wp2_with fail
    refine HV.out.mono ?_
    rintro _ w1 ⟨rfl, rfl⟩
    go_wp2_with fail
    refine HA.out.mono ?_
    rintro _ w1 ⟨rfl, rfl⟩
    go_wp2_with fail
    refine HB.out.mono ?_
    rintro _ w1 ⟨rfl, rfl⟩
    go_wp2
    go_ret
    exact ⟨rfl, Fr.refl _ _⟩
  · rw [if_neg hab]
    obtain ⟨_, hsome⟩ := hn.resolve_left hab
    have t1 : ((a : Int) == (b : Int)) = false := by simp; omega
    have hl := h.edges.run_ok (t := 123) (e := 128) (z := edZ) Tryz.underlying3 Tryz.underlying123 (by kernel_rfl) rfl (wf_nat (s := s) (by have := h.leS; omega))
    obtain ⟨⟨e1, e2, e3⟩, he⟩ := Option.isSome_iff_exists.1 hsome
    rw [mapG_nat, he] at hl
    simp only [Option.map_some, Option.getD_some, edV, Option.isSome_some] at hl
    generalize decide (T s) = tb at *
    clear h hn
    go_enter Tryz.func114, Tryz.ntmps114
    go_wp2_with fail
    refine HV.out.mono ?_
    rintro _ w1 ⟨rfl, rfl⟩
    go_wp2_with fail
    refine HA.out.mono ?_
    rintro _ w1 ⟨rfl, rfl⟩
    go_wp2_with fail
    refine HB.out.mono ?_
    rintro _ w1 ⟨rfl, rfl⟩
    go_wp2
    go_ret
    exact ⟨rfl, (Fr.refl _ _).alloc _⟩
end
end Go.Proofs.YtgmnemndjjmgkaaGreat
