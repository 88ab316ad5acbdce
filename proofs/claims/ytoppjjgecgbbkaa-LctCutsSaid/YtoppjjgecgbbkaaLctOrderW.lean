/- LctOrder: the plain law, and the walk. -/
import Derived.Deep.RegionHeld3
import Derived.Deep.AppendLies
import Derived.Test.YtoppjjgecgbbkaaLctGrown
import Derived.Test.YtoppjjgecgbbkaaLctSame
namespace Go.Proofs.Ytoppjjgecgbbkaa
open Go.RowKit Classical
set_option maxRecDepth 10000
set_option maxHeartbeats 800000

def swp (p : Nat × Nat) : Nat × Nat := (p.2, p.1)
/-- No edge is there twice, in either direction. -/
def Once (K : List (Nat × Nat)) : Prop := K.Pairwise fun p q => p ≠ q ∧ p ≠ swp q
theorem EK_congr {K L : List (Nat × Nat)} (h : ∀ p, (p ∈ K ∨ swp p ∈ K) ↔ (p ∈ L ∨ swp p ∈ L)) : EK K = EK L := E_ext (fun v u => h (v, u))
theorem EK_back (K : List (Nat × Nat)) : EK (K.reverse.map swp) = EK K := by
  refine EK_congr (fun p => ?_)
  have h1 : ∀ p : Nat × Nat, p ∈ K.reverse.map swp ↔ swp p ∈ K := by
    intro p
    rw [List.mem_map]
    constructor
    · rintro ⟨q, hq, rfl⟩; simpa [swp] using hq
    · intro h; exact ⟨swp p, by simpa using h, by simp [swp]⟩
  rw [h1, h1]
  have : swp (swp p) = p := by simp [swp]
  rw [this]; exact or_comm

/-- What was linked: different edges between vertices; a forest. -/
theorem growK_once (n : Nat) (z : Nat → Int × Int) : ∀ k, Once (growK n z k) ∧ ∀ p ∈ growK n z k, p.1 < n ∧ p.2 < n ∧ p.1 ≠ p.2
  | 0 => ⟨.nil, fun p hp => by cases hp⟩
  | k + 1 => by
    obtain ⟨h1, h2⟩ := growK_once n z k
    simp only [growK]
    by_cases h : linkCode n (EK (growK n z k)) (z k).1 (z k).2 = 0
    · rw [if_pos h]
      have hv : inV n (z k).1 = true ∧ inV n (z k).2 = true := by
        apply Classical.byContradiction; intro e; unfold linkCode at h; rw [if_neg e] at h; cases h
      have hab : (z k).1 ≠ (z k).2 := by
        intro e; unfold linkCode at h; rw [if_pos hv, if_pos e] at h; cases h
      have hn : ¬ Conn (EK (growK n z k)) (z k).1.toNat (z k).2.toNat := by
        intro e; unfold linkCode at h; rw [if_pos hv, if_neg hab, if_pos e] at h; cases h
      obtain ⟨x, hx, hxn⟩ := inV_nat hv.1
      obtain ⟨y, hy, hyn⟩ := inV_nat hv.2
      rw [hx, hy] at hn hab ⊢
      simp only [Int.toNat_natCast] at hn ⊢
      have hxy : x ≠ y := by omega
      refine ⟨List.pairwise_append.2 ⟨h1, List.pairwise_singleton _ _, fun p hp q hq => ?_⟩, fun p hp => ?_⟩
      · simp at hq; subst hq
        have hE : EK (growK n z k) p.1 p.2 := .inl hp
        constructor
        · rintro rfl
          exact hn ⟨[x, y], [y], rfl, ⟨hE, trivial⟩, by simp [hxy], rfl⟩
        · intro e
          have e1 : p.1 = y := by rw [e]; rfl
          have e2 : p.2 = x := by rw [e]; rfl
          rw [e1, e2] at hE
          exact hn ⟨[x, y], [y], rfl, ⟨hE.symm, trivial⟩, by simp [hxy], rfl⟩
      · rcases List.mem_append.1 hp with hp | hp
        · exact h2 p hp
        · simp at hp; subst hp; exact ⟨hxn, hyn, hxy⟩
    · rw [if_neg h]; exact ⟨h1, h2⟩

/-- In a forest an edge joins what the other edges leave apart. -/
theorem apart {K L : List (Nat × Nat)} (h : Frs (EK K)) (hs : ∀ v u, EK L v u → EK K v u) {p : Nat × Nat} (hp : EK K p.1 p.2) (hn : ¬ EK L p.1 p.2) : ¬ Conn (EK L) p.1 p.2 := by
  rintro ⟨q, hq⟩
  have h1 := hq.mono hs
  have h2 := h.unique h1 (h.edge hp)
  subst h2
  obtain ⟨l, e, hw, _⟩ := hq
  simp at e; subst e
  exact hn hw.1

theorem growK_again {n : Nat} {K : List (Nat × Nat)} (h : Frs (EK K)) (ho : Once K) (hv : ∀ p ∈ K, p.1 < n ∧ p.2 < n ∧ p.1 ≠ p.2) {z : Nat → Int × Int} (hz : ∀ i (hi : i < K.length), z i = ((K[i].1 : Int), (K[i].2 : Int))) :
    ∀ k, k ≤ K.length → growK n z k = K.take k
  | 0, _ => by simp [growK]
  | k + 1, hk => by
    have ih := growK_again h ho hv hz k (by omega)
    have hlt : k < K.length := by omega
    simp only [growK]
    rw [ih, hz k hlt]
    have hm := hv _ (List.getElem_mem hlt)
    have hmem : K[k] ∈ K := List.getElem_mem hlt
    have hcode : linkCode n (EK (K.take k)) (K[k].1 : Int) (K[k].2 : Int) = 0 := by
      refine linkCode_new hm.1 hm.2.1 hm.2.2 (apart (K := K) h (fun v u e => e.imp (fun x => List.mem_of_mem_take x) (fun x => List.mem_of_mem_take x)) (.inl hmem) ?_)
      have hpw := List.pairwise_iff_getElem.1 ho
      rintro (e | e)
      · obtain ⟨j, hj, he⟩ := List.mem_take_iff_getElem.1 e
        exact (hpw j k (by omega) hlt (by omega)).1 he
      · obtain ⟨j, hj, he⟩ := List.mem_take_iff_getElem.1 e
        exact (hpw j k (by omega) hlt (by omega)).2 he
    rw [if_pos hcode, List.take_add_one, List.getElem?_eq_getElem hlt, Option.toList_some, Int.toNat_natCast, Int.toNat_natCast]

theorem once_back {K : List (Nat × Nat)} (h : Once K) : Once (K.reverse.map swp) := by
  unfold Once
  rw [List.pairwise_map, List.pairwise_reverse]
  refine h.imp (fun {p q} hpq => ⟨fun e => hpq.1 ?_, fun e => hpq.2 ?_⟩)
  · simp only [swp, Prod.mk.injEq] at e
    exact Prod.ext e.2.symm e.1.symm
  · simp only [swp, Prod.mk.injEq] at e
    exact Prod.ext e.1.symm e.2.symm

/-- A row of pairs, as a slice of pairs. -/
theorem pairs_of_row {w : World} {v : Value} {K : List (Nat × Nat)} (h : w.ownsRow 0 30 2 v K.length (pairCells K)) (hl : K.length ≤ 120) : ∃ a cap, v = .slice a K.length cap ∧ PairsF w a K.length (fun i => (((K.getD i (0, 0)).1 : Int), ((K.getD i (0, 0)).2 : Int))) := by
  obtain ⟨h1, h2⟩ := h
  rcases h2 with ⟨rfl, h0⟩ | ⟨g, cap, cur, rfl, _, hh, hn, hm, hsz, hxs⟩
  · exact ⟨none, 0, by rw [h0], by rw [h0]; exact ⟨by omega, fun i hi => by omega⟩⟩
  · refine ⟨_, _, rfl, by omega, fun i hi => ⟨g, 0, rfl, (Array.getElem?_eq_some_iff.1 hh).1, ?_, ?_⟩⟩
    all_goals
      have key : ∀ j, j < 2 → cur[i * 2 + j]? = (pairCells K)[i * 2 + j]? := by
        intro j hj
        rw [← hxs, List.getElem?_take, if_pos (by omega)]
        simp
      have cells : ∀ (K : List (Nat × Nat)) (i : Nat), i < K.length → (pairCells K)[i * 2]? = some (.int .i64 ((K.getD i (0, 0)).1 : Int)) ∧ (pairCells K)[i * 2 + 1]? = some (.int .i64 ((K.getD i (0, 0)).2 : Int)) := by
        intro K
        induction K with
        | nil => intro i hi; simp at hi
        | cons p K ih =>
          intro i hi
          cases i with
          | zero => simp [pairCells]
          | succ i =>
            have := ih i (by simpa using hi)
            simp only [pairCells, List.flatMap_cons] at this ⊢
            rw [show (i + 1) * 2 = i * 2 + 2 by omega, show i * 2 + 2 + 1 = (i * 2 + 1) + 2 by omega]
            simpa using this
      simp only [World.cell?, hh, Nat.zero_add]
      simp
    · have := key 0 (by omega); simp at this; rw [this]; exact (cells K i hi).1
    · rw [key 1 (by omega)]; exact (cells K i hi).2

theorem pairInts_len (K : List (Nat × Nat)) : (pairCells K).length = K.length * 2 := pairCells_len K

theorem walk_lctOrder (W : World) (n : Int) (_wn : (Lit.int .i64 n).wf = true) (a : Option Addr) (len cap : Nat) (z : Nat → Int × Int) (hz : PairsF W a len z) (x : Int) (_wx : (Lit.int .i64 x).wf = true) (y : Int) (_wy : (Lit.int .i64 y).wf = true) :
    Calls Try.prog 6 #[.int .i64 n, .slice a len cap, .int .i64 x, .int .i64 y] W fun e w' => e = .returned (.bool true) ∧ Below W.heap.size W w' := by
  have hS := small_w W n a len cap hz.1
  have HZ := Lib.hid hz; clear hz
  cases hsm : smallB n len with
  | false =>
    rw [hsm] at hS
    have HS := Lib.hid hS; clear hS hsm
    go_enter Try.func6, Try.ntmps6
    go_wp2_with fail
    refine HS.out.mono ?_
    rintro _ w ⟨rfl, rfl⟩
    go_wp2_with fail
    refine (works_w w).mono ?_
    rintro _ w2 ⟨rfl, hB⟩
    go_wp2
    go_ret
    exact ⟨rfl, hB⟩
  | true =>
    rw [hsm] at hS
    have HS := Lib.hid hS; clear hS
    have hn : 0 ≤ n ∧ n ≤ 120 ∧ len ≤ 120 := by simp [smallB] at hsm; omega
    clear hsm
    obtain ⟨n, rfl⟩ : ∃ m : Nat, n = m := ⟨n.toNat, by omega⟩
    obtain ⟨_, hn1, hn2⟩ := hn
    have hn3 : n ≤ 120 := by omega
    go_enter Try.func6, Try.ntmps6
    go_wp2_with fail
    refine HS.out.mono ?_
    rintro _ w ⟨rfl, rfl⟩
    go_wp2_with fail
    refine (grown_w w n hn3 a len cap hn2 z HZ.out).mono ?_
    rintro _ w1 ⟨pf, g, v, rfl, hO, hown, hq⟩
    have hKl : (growK n z len).length ≤ 120 := Nat.le_trans (growK_len n z len) hn2
    have HG := Lib.hid (growK_once n z len)
    generalize growK n z len = K at *
    obtain ⟨a1, c1, rfl⟩ := ownsRow_slice hown
    have Hfs := Lib.hid (LG.frs hO.lm)
    have HO := Lib.hid hO; clear hO
    have HQ := Lib.hid hq; clear hq
    have hone : ∀ p ∈ K, True := fun _ _ => trivial
    clear hone
    obtain ⟨i0, hi, hz0, hz1, hz2⟩ := info_parts Try.info30
    go_wp2
    go_loopw [11, 12] (fun o i wr => ∃ j : Nat, j ≤ K.length ∧ i = .int .i64 ((j : Int) - 1) ∧ Hid (Own1 w wr pf g n (EK K) (fun _ => 0)) ∧ wr.ownsRow 0 30 2 (.slice a1 K.length c1) K.length (pairCells K) ∧
      wr.ownsRow 0 30 2 o (K.length - j) (pairCells ((K.reverse.map swp).take (K.length - j))) ∧ Hid (∀ q, o.ownBlock = some q → w.heap.size ≤ q ∧ q ≠ pf ∧ q ≠ g ∧ (Value.slice a1 K.length c1).ownBlock ≠ some q)) (fun _ i _ => (intOf i + 1).toNat)
    case atStart => exact ⟨K.length, Nat.le_refl _, by go_num, HO, hown, by rw [Nat.sub_self]; exact World.ownsRow_nil _ _ _ _, Lib.hid (fun q e => by cases e)⟩
    case round =>
      clear HO hown
      obtain ⟨j, hj, rfl, HO, hown, hrow, HQo⟩ := hrel
      obtain ⟨a2, c2, rfl⟩ := ownsRow_slice hrow
      cases j with
      | zero =>
        rw [show ((0 : Nat) : Int) - 1 = -1 by rfl]
        rw [Nat.sub_zero, List.take_of_length_le (by simp)] at hrow
        have hbl : (K.reverse.map swp).length = K.length := by simp
        obtain ⟨a2', c2', e2, hPF⟩ := pairs_of_row (K := K.reverse.map swp) (by rw [hbl]; exact hrow) (by omega)
        rw [hbl] at e2 hPF
        simp only [Value.slice.injEq, true_and] at e2
        obtain ⟨rfl, rfl⟩ := e2
        have hEb := EK_back K
        have hga := growK_again (n := n) (K := K.reverse.map swp) (by rw [hEb]; exact Hfs.out) (once_back HG.out.1) (fun p hp => by
          obtain ⟨q, hq, rfl⟩ := List.mem_map.1 hp
          have := HG.out.2 q (by simpa using hq)
          exact ⟨this.2.1, this.1, fun e => this.2.2 e.symm⟩) (z := fun i => (((((K.reverse.map swp).getD i (0, 0)).1 : Nat) : Int), ((((K.reverse.map swp).getD i (0, 0)).2 : Nat) : Int))) (fun i hi => by
            rw [List.getD_eq_getElem?_getD, List.getElem?_eq_getElem hi]; rfl) K.length (by omega)
        rw [List.take_of_length_le (by omega)] at hga
        have hgr := grown_w wr n hn3 a2 K.length c2 hKl _ hPF
        rw [hga, hEb, hbl] at hgr
        have HGr := Lib.hid hgr
        clear hgr hga hPF hEb hbl hrow hown HQo HQ
        go_wp2_with fail
        refine HGr.out.mono ?_
        rintro _ w5 ⟨pf2, g2, v2, rfl, hO2, hown2, _⟩
        obtain ⟨a3, c3, rfl⟩ := ownsRow_slice hown2
        clear hown2 HGr
        have hO1 : Own1 w w5 pf g n (EK K) (fun _ => 0) := ⟨LG.fr HO.out.lm hO2.fr (by simp) (by simp), HO.out.fr.trans hO2.fr (by simp), HO.out.pf, HO.out.g⟩
        obtain ⟨hp1, hg1, _⟩ := LG.lts HO.out.lm
        have hd : pf2 ≠ pf ∧ pf2 ≠ g ∧ g2 ≠ pf ∧ g2 ≠ g := by have h1 := hO2.pf; have h2 := hO2.g; omega
        have hw5 : w.heap.size ≤ pf2 ∧ w.heap.size ≤ g2 := by have h1 := hO2.pf; have h2 := hO2.g; have h3 := HO.out.fr.size; omega
        have HO1 := Lib.hid hO1; clear hO1
        have HL2 := Lib.hid hO2.lm; clear hO2 HO
        have hll : ∀ a b, (pathL n (EK K) a b).length ≤ 65536 := by
          intro a b
          by_cases hc : ConnI n (EK K) a b
          · unfold pathL; rw [if_pos hc]
            obtain ⟨va, vb, hc'⟩ := hc
            have hpth := thePath_is hc'
            refine Nat.le_trans (nodup_le (N := n) hpth.nd (fun z hz => ?_)) (by omega)
            obtain ⟨l, e, hw', _⟩ := hpth
            rw [e] at hz
            obtain ⟨x', hx', hxn⟩ := inV_nat va
            rcases List.mem_cons.1 hz with rfl | hz
            · rw [hx', Int.toNat_natCast]; exact hxn
            · have key : ∀ {l : List Nat} {a : Nat}, Wk (EK K) a l → ∀ z ∈ l, z < n := by
                intro l
                induction l with
                | nil => intro a _ z hz; cases hz
                | cons y l ih =>
                  intro a ⟨h1, h2⟩ z hz
                  rcases List.mem_cons.1 hz with rfl | hz
                  · exact (LG.edge_lt HO1.out.lm h1).2
                  · exact ih h2 z hz
              exact key hw' z hz
          · unfold pathL; rw [if_neg hc]; simp
        have Hll := Lib.hid hll; clear hll
        have hne : ((K.length : Int) != (K.length : Int)) = false := by simp
        go_wp2_with fail
        refine (pathf_w HO1.out.lm x y).mono ?_
        rintro _ w6 ⟨v6, rfl, r6, o6, h6, f6⟩
        have HO6 := Lib.hid (HO1.out.ask h6 f6)
        have HL6 := Lib.hid (LG.fr HL2.out f6 (by simp; omega) (by simp; omega))
        have R6 := Lib.hid (show RowN w6 v6 _ from r6)
        obtain ⟨a6, c6, rfl⟩ := ownsRow_slice r6
        clear r6 h6
        go_wp2_with fail
        refine (pathf_w HL6.out x y).mono ?_
        rintro _ w7 ⟨v7, rfl, r7, o7, h7, f7⟩
        have hlt6 := LG.lts HL6.out
        have R67 := Lib.hid (R6.out.fr f7 (fun q hq => by
          have h1 := o6 q hq
          have h2 := LG.lts HL2.out
          simp; omega))
        have HO7 := Lib.hid (Own1.mk (LG.fr HO6.out.lm f7 (by simp; omega) (by simp; omega)) (HO6.out.fr.trans f7 (fun q hq => .inr (by simp at hq; omega))) HO6.out.pf HO6.out.g)
        have HL7 := Lib.hid h7
        have R7 := Lib.hid (show RowN w7 v7 _ from r7)
        obtain ⟨a7, c7, rfl⟩ := ownsRow_slice r7
        clear r7 h7
        have hsm := same_w R67.out R7.out (Hll.out x y) (Hll.out x y)
        rw [decide_eq_true rfl] at hsm
        have HSm := Lib.hid hsm; clear hsm
        go_wp2_with fail
        refine HSm.out.mono ?_
        rintro _ _ ⟨rfl, k8, rfl⟩
        go_wp2_with fail
        refine (size_d (HO7.out.drew k8).lm x).mono ?_
        rintro _ w9 ⟨rfl, h9, f9⟩
        have HO9 := Lib.hid ((HO7.out.drew k8).ask h9 f9)
        have HL9 := Lib.hid (LG.fr (LG.fr HL7.out ((Fr.refl [] w7).drewN k8) (by simp) (by simp)) f9 (by simp; omega) (by simp; omega))
        clear h9
        go_wp2_with fail
        refine (size_d HL9.out x).mono ?_
        rintro _ w10 ⟨rfl, h10, f10⟩
        have HO10 := Lib.hid (Own1.mk (LG.fr HO9.out.lm f10 (by simp; omega) (by simp; omega)) (HO9.out.fr.trans f10 (fun q hq => .inr (by simp at hq; omega))) HO9.out.pf HO9.out.g)
        have HL10 := Lib.hid h10; clear h10
        generalize sizeI n (EK K) x = sz at *
        go_wp2_with fail
        refine (trees_w HO10.out.lm).mono ?_
        rintro _ _ ⟨rfl, k11, rfl⟩
        go_wp2_with fail
        refine (trees_w (LG.fr HL10.out ((Fr.refl [] w10).drewN k11) (by simp) (by simp))).mono ?_
        rintro _ _ ⟨rfl, k12, rfl⟩
        have HO12 := Lib.hid (HO10.out.drew (k11 + k12))
        go_wp2_with fail
        refine (works_w _).mono ?_
        rintro _ w13 ⟨rfl, hB⟩
        go_wp2
        go_ret
        exact ⟨rfl, HO12.out.below.trans (hB.mono HO12.out.fr.size)⟩
      | succ j =>
        rw [show ((j + 1 : Nat) : Int) - 1 = (j : Int) by omega]
        obtain ⟨a1', c1', e1, hPF⟩ := pairs_of_row hown hKl
        simp only [Value.slice.injEq, true_and] at e1
        obtain ⟨rfl, rfl⟩ := e1
        obtain ⟨b, off, rfl, hb, q0, q1⟩ := hPF.2 j (by omega)
        dsimp only at q0 q1
        have hkl : (j : Int) < K.length := by omega
        have hk0 : (0 : Int) ≤ (j : Int) := by omega
        generalize hp : K.getD j (0, 0) = p at *
        have HP := Lib.hid hp; clear hp hPF
        go_wp2
        go_region_held3 (fun w' => w'.cell? ⟨b, off + j * 2, none⟩ = some (.int .i64 p.1) ∧ w'.cell? ⟨b, off + j * 2 + 1, none⟩ = some (.int .i64 p.2))
          (first
            | go_keep
            | (go_split_ands
               refine ⟨?_, ?_⟩
               · (rw [hgrow.cell_far _ (by simp; omega) (by simpa using fun e => (HQo.out b e.symm).2.2.2 rfl)]; assumption)
               · (rw [hgrow.cell_far _ (by simp; omega) (by simpa using fun e => (HQo.out b e.symm).2.2.2 rfl)]; assumption)))
          ((refine step_append_lies _ (by rfl) _ _ _ (by rfl) 0 30 i0 _ 2 16 Try.underlying22 hi hz0 hz1 hz2 rfl (by omega) (.slice a2 (K.length - (j + 1)) c2) (K.length - (j + 1)) _ (by rfl) ((hrow.alloc _).drew)
              ⟨wr.heap.size, 0, none⟩ 1 1 [.int .i64 p.2, .int .i64 p.1] (by rfl) (by rfl) (World.news_of_block (cs := #[.int .i64 p.2, .int .i64 p.1]) (t := 30) (fr := (0, 0)) (heap_alloc_new wr _)) (by simp [Value.oneCell'])
              (by omega) (by unfold maxLen; omega) (by omega) (by simp) (wr.heap.size + 1) (by simp) ?_; intro g' cap' w4 hown4 hgrow hat hlt4))
        go_wp2
        go_roundw
        case rel =>
          have hsz4 := hgrow.size
          simp only [World.size_alloc, World.size_drew] at hsz4
          have hF4 : Fr (Value.slice a2 (K.length - (j + 1)) c2).ownBlock.toList wr w4 := ⟨hgrow.os, hgrow.tape, hgrow.output, by omega, fun q hq hn => by
            rw [hgrow.block q (by simp; omega) (fun e => hn (by simp [← e]))]; exact Below.heap_alloc wr _ _ hq⟩
          have hKb : (K.reverse.map swp).take (K.length - j) = (K.reverse.map swp).take (K.length - (j + 1)) ++ [(p.2, p.1)] := by
            rw [show K.length - j = (K.length - (j + 1)) + 1 by omega, List.take_add_one]
            congr 1
            rw [List.getElem?_map, List.getElem?_reverse (by omega), show K.length - 1 - (K.length - (j + 1)) = j by omega, List.getElem?_eq_getElem (by omega)]
            have := HP.out
            rw [List.getD_eq_getElem?_getD, List.getElem?_eq_getElem (by omega)] at this
            simp at this
            rw [this]; rfl
          refine ⟨j, by omega, by go_num, Lib.hid ⟨LG.fr HO.out.lm hF4 (fun hm => (HQo.out pf (by simpa using hm)).2.1 rfl) (fun hm => (HQo.out g (by simpa using hm)).2.2.1 rfl), HO.out.fr.trans hF4 (fun q hq => .inr (HQo.out q (by simpa using hq)).1), HO.out.pf, HO.out.g⟩, ?_, ?_, Lib.hid (fun q e => ?_)⟩
          · exact ownsRow_same hown (fun q hq => hF4.keep q (hown.lt q hq).2 (fun hm => (HQo.out q (by simpa using hm)).2.2.2 hq))
          · rw [hKb, pairCells_snoc]
            have e2 : K.length - j = K.length - (j + 1) + 1 := by omega
            rw [e2]; exact hown4
          · simp only [Value.ownBlock, Option.some.injEq] at e
            subst e
            rcases hat with h | h
            · exact HQo.out _ h
            · obtain ⟨h1, h2, _⟩ := LG.lts HO.out.lm
              have h3 := HO.out.fr.size
              have h4 := hown.lt b rfl
              refine ⟨by omega, by omega, by omega, ?_⟩
              simp only [Value.ownBlock, ne_eq, Option.some.injEq]; omega
        case measure => simp [intOf]

end Go.Proofs.Ytoppjjgecgbbkaa
