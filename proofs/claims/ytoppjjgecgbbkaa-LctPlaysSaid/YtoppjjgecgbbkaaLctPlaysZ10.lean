/- LctMeets: the plain law, and the walk. -/
import Derived.Deep.RegionHeld3
import Derived.Deep.AppendLies
import Derived.Test.YtoppjjgecgbbkaaLctPlaysZ9
import Derived.Test.YtoppjjgecgbbkaaLctPlaysZ7
/- LctOrder: the plain law, and the walk. -/
namespace Go.Proofs.Ytoppjjgecgbbkaa
open Go.RowKit Classical
set_option maxRecDepth 10000
set_option maxHeartbeats 800000

def swp (p : Nat × Nat) : Nat × Nat := (p.2, p.1)
/-- No edge is there twice, in either direction. -/
def Once (K : List (Nat × Nat)) : Prop := K.Pairwise fun p q => p ≠ q ∧ p ≠ swp q
theorem EK_congr {K L : List (Nat × Nat)} (h : ∀ p, (p ∈ K ∨ swp p ∈ K) ↔ (p ∈ L ∨ swp p ∈ L)) : EK K = EK L := E_ext (fun v u => h (v, u))
theorem EK_back (K : List (Nat × Nat)) : EK (K.reverse.map swp) = EK K := by
  refine EK_congr (fun p => ?_)
  have h1 : ∀ p : Nat × Nat, p ∈ K.reverse.map swp ↔ swp p ∈ K := by
    intro p
    rw [List.mem_map]
    constructor
    · rintro ⟨q, hq, rfl⟩; simpa [swp] using hq
    · intro h; exact ⟨swp p, by simpa using h, by simp [swp]⟩
  rw [h1, h1]
  have : swp (swp p) = p := by simp [swp]
  rw [this]; exact or_comm

/-- What was linked: different edges between vertices; a forest. -/
theorem growK_once (n : Nat) (z : Nat → Int × Int) : ∀ k, Once (growK n z k) ∧ ∀ p ∈ growK n z k, p.1 < n ∧ p.2 < n ∧ p.1 ≠ p.2
  | 0 => ⟨.nil, fun p hp => by cases hp⟩
  | k + 1 => by
    obtain ⟨h1, h2⟩ := growK_once n z k
    simp only [growK]
    by_cases h : linkCode n (EK (growK n z k)) (z k).1 (z k).2 = 0
    · rw [if_pos h]
      have hv : inV n (z k).1 = true ∧ inV n (z k).2 = true := by
        apply Classical.byContradiction; intro e; unfold linkCode at h; rw [if_neg e] at h; cases h
      have hab : (z k).1 ≠ (z k).2 := by
        intro e; unfold linkCode at h; rw [if_pos hv, if_pos e] at h; cases h
      have hn : ¬ Conn (EK (growK n z k)) (z k).1.toNat (z k).2.toNat := by
        intro e; unfold linkCode at h; rw [if_pos hv, if_neg hab, if_pos e] at h; cases h
      obtain ⟨x, hx, hxn⟩ := inV_nat hv.1
      obtain ⟨y, hy, hyn⟩ := inV_nat hv.2
      rw [hx, hy] at hn hab ⊢
      simp only [Int.toNat_natCast] at hn ⊢
      have hxy : x ≠ y := by omega
      refine ⟨List.pairwise_append.2 ⟨h1, List.pairwise_singleton _ _, fun p hp q hq => ?_⟩, fun p hp => ?_⟩
      · simp at hq; subst hq
        have hE : EK (growK n z k) p.1 p.2 := .inl hp
        constructor
        · rintro rfl
          exact hn ⟨[x, y], [y], rfl, ⟨hE, trivial⟩, by simp [hxy], rfl⟩
        · intro e
          have e1 : p.1 = y := by rw [e]; rfl
          have e2 : p.2 = x := by rw [e]; rfl
          rw [e1, e2] at hE
          exact hn ⟨[x, y], [y], rfl, ⟨hE.symm, trivial⟩, by simp [hxy], rfl⟩
      · rcases List.mem_append.1 hp with hp | hp
        · exact h2 p hp
        · simp at hp; subst hp; exact ⟨hxn, hyn, hxy⟩
    · rw [if_neg h]; exact ⟨h1, h2⟩

/-- In a forest an edge joins what the other edges leave apart. -/
theorem apart {K L : List (Nat × Nat)} (h : Frs (EK K)) (hs : ∀ v u, EK L v u → EK K v u) {p : Nat × Nat} (hp : EK K p.1 p.2) (hn : ¬ EK L p.1 p.2) : ¬ Conn (EK L) p.1 p.2 := by
  rintro ⟨q, hq⟩
  have h1 := hq.mono hs
  have h2 := h.unique h1 (h.edge hp)
  subst h2
  obtain ⟨l, e, hw, _⟩ := hq
  simp at e; subst e
  exact hn hw.1

theorem growK_again {n : Nat} {K : List (Nat × Nat)} (h : Frs (EK K)) (ho : Once K) (hv : ∀ p ∈ K, p.1 < n ∧ p.2 < n ∧ p.1 ≠ p.2) {z : Nat → Int × Int} (hz : ∀ i (hi : i < K.length), z i = ((K[i].1 : Int), (K[i].2 : Int))) :
    ∀ k, k ≤ K.length → growK n z k = K.take k
  | 0, _ => by simp [growK]
  | k + 1, hk => by
    have ih := growK_again h ho hv hz k (by omega)
    have hlt : k < K.length := by omega
    simp only [growK]
    rw [ih, hz k hlt]
    have hm := hv _ (List.getElem_mem hlt)
    have hmem : K[k] ∈ K := List.getElem_mem hlt
    have hcode : linkCode n (EK (K.take k)) (K[k].1 : Int) (K[k].2 : Int) = 0 := by
      refine linkCode_new hm.1 hm.2.1 hm.2.2 (apart (K := K) h (fun v u e => e.imp (fun x => List.mem_of_mem_take x) (fun x => List.mem_of_mem_take x)) (.inl hmem) ?_)
      have hpw := List.pairwise_iff_getElem.1 ho
      rintro (e | e)
      · obtain ⟨j, hj, he⟩ := List.mem_take_iff_getElem.1 e
        exact (hpw j k (by omega) hlt (by omega)).1 he
      · obtain ⟨j, hj, he⟩ := List.mem_take_iff_getElem.1 e
        exact (hpw j k (by omega) hlt (by omega)).2 he
    rw [if_pos hcode, List.take_add_one, List.getElem?_eq_getElem hlt, Option.toList_some, Int.toNat_natCast, Int.toNat_natCast]

theorem once_back {K : List (Nat × Nat)} (h : Once K) : Once (K.reverse.map swp) := by
  unfold Once
  rw [List.pairwise_map, List.pairwise_reverse]
  refine h.imp (fun {p q} hpq => ⟨fun e => hpq.1 ?_, fun e => hpq.2 ?_⟩)
  · simp only [swp, Prod.mk.injEq] at e
    exact Prod.ext e.2.symm e.1.symm
  · simp only [swp, Prod.mk.injEq] at e
    exact Prod.ext e.1.symm e.2.symm

/-- A row of pairs, as a slice of pairs. -/
theorem pairs_of_row {w : World} {v : Value} {K : List (Nat × Nat)} (h : w.ownsRow 0 30 2 v K.length (pairCells K)) (hl : K.length ≤ 120) : ∃ a cap, v = .slice a K.length cap ∧ PairsF w a K.length (fun i => (((K.getD i (0, 0)).1 : Int), ((K.getD i (0, 0)).2 : Int))) := by
  obtain ⟨h1, h2⟩ := h
  rcases h2 with ⟨rfl, h0⟩ | ⟨g, cap, cur, rfl, _, hh, hn, hm, hsz, hxs⟩
  · exact ⟨none, 0, by rw [h0], by rw [h0]; exact ⟨by omega, fun i hi => by omega⟩⟩
  · refine ⟨_, _, rfl, by omega, fun i hi => ⟨g, 0, rfl, (Array.getElem?_eq_some_iff.1 hh).1, ?_, ?_⟩⟩
    all_goals
      have key : ∀ j, j < 2 → cur[i * 2 + j]? = (pairCells K)[i * 2 + j]? := by
        intro j hj
        rw [← hxs, List.getElem?_take, if_pos (by omega)]
        simp
      have cells : ∀ (K : List (Nat × Nat)) (i : Nat), i < K.length → (pairCells K)[i * 2]? = some (.int .i64 ((K.getD i (0, 0)).1 : Int)) ∧ (pairCells K)[i * 2 + 1]? = some (.int .i64 ((K.getD i (0, 0)).2 : Int)) := by
        intro K
        induction K with
        | nil => intro i hi; simp at hi
        | cons p K ih =>
          intro i hi
          cases i with
          | zero => simp [pairCells]
          | succ i =>
            have := ih i (by simpa using hi)
            simp only [pairCells, List.flatMap_cons] at this ⊢
            rw [show (i + 1) * 2 = i * 2 + 2 by omega, show i * 2 + 2 + 1 = (i * 2 + 1) + 2 by omega]
            simpa using this
      simp only [World.cell?, hh, Nat.zero_add]
      simp
    · have := key 0 (by omega); simp at this; rw [this]; exact (cells K i hi).1
    · rw [key 1 (by omega)]; exact (cells K i hi).2

theorem pairInts_len (K : List (Nat × Nat)) : (pairCells K).length = K.length * 2 := pairCells_len K

theorem walk_lctOrder (W : World) (n : Int) (_wn : (Lit.int .i64 n).wf = true) (a : Option Addr) (len cap : Nat) (z : Nat → Int × Int) (hz : PairsF W a len z) (x : Int) (_wx : (Lit.int .i64 x).wf = true) (y : Int) (_wy : (Lit.int .i64 y).wf = true) :
    Calls Try.prog 6 #[.int .i64 n, .slice a len cap, .int .i64 x, .int .i64 y] W fun e w' => e = .returned (.bool true) ∧ Below W.heap.size W w' := by
  have hS := small_w W n a len cap hz.1
  have HZ := Lib.hid hz; clear hz
  cases hsm : smallB n len with
  | false =>
    rw [hsm] at hS
    have HS := Lib.hid hS; clear hS hsm
    go_enter Try.func6, Try.ntmps6
    go_wp2_with fail
    refine HS.out.mono ?_
    rintro _ w ⟨rfl, rfl⟩
    go_wp2_with fail
    refine (works_w w).mono ?_
    rintro _ w2 ⟨rfl, hB⟩
    go_wp2
    go_ret
    exact ⟨rfl, hB⟩
  | true =>
    rw [hsm] at hS
    have HS := Lib.hid hS; clear hS
    have hn : 0 ≤ n ∧ n ≤ 120 ∧ len ≤ 120 := by simp [smallB] at hsm; omega
    clear hsm
    obtain ⟨n, rfl⟩ : ∃ m : Nat, n = m := ⟨n.toNat, by omega⟩
    obtain ⟨_, hn1, hn2⟩ := hn
    have hn3 : n ≤ 120 := by omega
    go_enter Try.func6, Try.ntmps6
    go_wp2_with fail
    refine HS.out.mono ?_
    rintro _ w ⟨rfl, rfl⟩
    go_wp2_with fail
    refine (grown_w w n hn3 a len cap hn2 z HZ.out).mono ?_
    rintro _ w1 ⟨pf, g, v, rfl, hO, hown, hq⟩
    have hKl : (growK n z len).length ≤ 120 := Nat.le_trans (growK_len n z len) hn2
    have HG := Lib.hid (growK_once n z len)
    generalize growK n z len = K at *
    obtain ⟨a1, c1, rfl⟩ := ownsRow_slice hown
    have Hfs := Lib.hid (LG.frs hO.lm)
    have HO := Lib.hid hO; clear hO
    have HQ := Lib.hid hq; clear hq
    have hone : ∀ p ∈ K, True := fun _ _ => trivial
    clear hone
    obtain ⟨i0, hi, hz0, hz1, hz2⟩ := info_parts Try.info30
    go_wp2
    go_loopw [11, 12] (fun o i wr => ∃ j : Nat, j ≤ K.length ∧ i = .int .i64 ((j : Int) - 1) ∧ Hid (Own1 w wr pf g n (EK K) (fun _ => 0)) ∧ wr.ownsRow 0 30 2 (.slice a1 K.length c1) K.length (pairCells K) ∧
      wr.ownsRow 0 30 2 o (K.length - j) (pairCells ((K.reverse.map swp).take (K.length - j))) ∧ Hid (∀ q, o.ownBlock = some q → w.heap.size ≤ q ∧ q ≠ pf ∧ q ≠ g ∧ (Value.slice a1 K.length c1).ownBlock ≠ some q)) (fun _ i _ => (intOf i + 1).toNat)
    case atStart => exact ⟨K.length, Nat.le_refl _, by go_num, HO, hown, by rw [Nat.sub_self]; exact World.ownsRow_nil _ _ _ _, Lib.hid (fun q e => by cases e)⟩
    case round =>
      clear HO hown
      obtain ⟨j, hj, rfl, HO, hown, hrow, HQo⟩ := hrel
      obtain ⟨a2, c2, rfl⟩ := ownsRow_slice hrow
      cases j with
      | zero =>
        rw [show ((0 : Nat) : Int) - 1 = -1 by rfl]
        rw [Nat.sub_zero, List.take_of_length_le (by simp)] at hrow
        have hbl : (K.reverse.map swp).length = K.length := by simp
        obtain ⟨a2', c2', e2, hPF⟩ := pairs_of_row (K := K.reverse.map swp) (by rw [hbl]; exact hrow) (by omega)
        rw [hbl] at e2 hPF
        simp only [Value.slice.injEq, true_and] at e2
        obtain ⟨rfl, rfl⟩ := e2
        have hEb := EK_back K
        have hga := growK_again (n := n) (K := K.reverse.map swp) (by rw [hEb]; exact Hfs.out) (once_back HG.out.1) (fun p hp => by
          obtain ⟨q, hq, rfl⟩ := List.mem_map.1 hp
          have := HG.out.2 q (by simpa using hq)
          exact ⟨this.2.1, this.1, fun e => this.2.2 e.symm⟩) (z := fun i => (((((K.reverse.map swp).getD i (0, 0)).1 : Nat) : Int), ((((K.reverse.map swp).getD i (0, 0)).2 : Nat) : Int))) (fun i hi => by
            rw [List.getD_eq_getElem?_getD, List.getElem?_eq_getElem hi]; rfl) K.length (by omega)
        rw [List.take_of_length_le (by omega)] at hga
        have hgr := grown_w wr n hn3 a2 K.length c2 hKl _ hPF
        rw [hga, hEb, hbl] at hgr
        have HGr := Lib.hid hgr
        clear hgr hga hPF hEb hbl hrow hown HQo HQ
        go_wp2_with fail
        refine HGr.out.mono ?_
        rintro _ w5 ⟨pf2, g2, v2, rfl, hO2, hown2, _⟩
        obtain ⟨a3, c3, rfl⟩ := ownsRow_slice hown2
        clear hown2 HGr
        have hO1 : Own1 w w5 pf g n (EK K) (fun _ => 0) := ⟨LG.fr HO.out.lm hO2.fr (by simp) (by simp), HO.out.fr.trans hO2.fr (by simp), HO.out.pf, HO.out.g⟩
        obtain ⟨hp1, hg1, _⟩ := LG.lts HO.out.lm
        have hd : pf2 ≠ pf ∧ pf2 ≠ g ∧ g2 ≠ pf ∧ g2 ≠ g := by have h1 := hO2.pf; have h2 := hO2.g; omega
        have hw5 : w.heap.size ≤ pf2 ∧ w.heap.size ≤ g2 := by have h1 := hO2.pf; have h2 := hO2.g; have h3 := HO.out.fr.size; omega
        have HO1 := Lib.hid hO1; clear hO1
        have HL2 := Lib.hid hO2.lm; clear hO2 HO
        have hll : ∀ a b, (pathL n (EK K) a b).length ≤ 65536 := by
          intro a b
          by_cases hc : ConnI n (EK K) a b
          · unfold pathL; rw [if_pos hc]
            obtain ⟨va, vb, hc'⟩ := hc
            have hpth := thePath_is hc'
            refine Nat.le_trans (nodup_le (N := n) hpth.nd (fun z hz => ?_)) (by omega)
            obtain ⟨l, e, hw', _⟩ := hpth
            rw [e] at hz
            obtain ⟨x', hx', hxn⟩ := inV_nat va
            rcases List.mem_cons.1 hz with rfl | hz
            · rw [hx', Int.toNat_natCast]; exact hxn
            · have key : ∀ {l : List Nat} {a : Nat}, Wk (EK K) a l → ∀ z ∈ l, z < n := by
                intro l
                induction l with
                | nil => intro a _ z hz; cases hz
                | cons y l ih =>
                  intro a ⟨h1, h2⟩ z hz
                  rcases List.mem_cons.1 hz with rfl | hz
                  · exact (LG.edge_lt HO1.out.lm h1).2
                  · exact ih h2 z hz
              exact key hw' z hz
          · unfold pathL; rw [if_neg hc]; simp
        have Hll := Lib.hid hll; clear hll
        have hne : ((K.length : Int) != (K.length : Int)) = false := by simp
        go_wp2_with fail
        refine (pathf_w HO1.out.lm x y).mono ?_
        rintro _ w6 ⟨v6, rfl, r6, o6, h6, f6⟩
        have HO6 := Lib.hid (HO1.out.ask h6 f6)
        have HL6 := Lib.hid (LG.fr HL2.out f6 (by simp; omega) (by simp; omega))
        have R6 := Lib.hid (show RowN w6 v6 _ from r6)
        obtain ⟨a6, c6, rfl⟩ := ownsRow_slice r6
        clear r6 h6
        go_wp2_with fail
        refine (pathf_w HL6.out x y).mono ?_
        rintro _ w7 ⟨v7, rfl, r7, o7, h7, f7⟩
        have hlt6 := LG.lts HL6.out
        have R67 := Lib.hid (R6.out.fr f7 (fun q hq => by
          have h1 := o6 q hq
          have h2 := LG.lts HL2.out
          simp; omega))
        have HO7 := Lib.hid (Own1.mk (LG.fr HO6.out.lm f7 (by simp; omega) (by simp; omega)) (HO6.out.fr.trans f7 (fun q hq => .inr (by simp at hq; omega))) HO6.out.pf HO6.out.g)
        have HL7 := Lib.hid h7
        have R7 := Lib.hid (show RowN w7 v7 _ from r7)
        obtain ⟨a7, c7, rfl⟩ := ownsRow_slice r7
        clear r7 h7
        have hsm := same_w R67.out R7.out (Hll.out x y) (Hll.out x y)
        rw [decide_eq_true rfl] at hsm
        have HSm := Lib.hid hsm; clear hsm
        go_wp2_with fail
        refine HSm.out.mono ?_
        rintro _ _ ⟨rfl, k8, rfl⟩
        go_wp2_with fail
        refine (size_d (HO7.out.drew k8).lm x).mono ?_
        rintro _ w9 ⟨rfl, h9, f9⟩
        have HO9 := Lib.hid ((HO7.out.drew k8).ask h9 f9)
        have HL9 := Lib.hid (LG.fr (LG.fr HL7.out ((Fr.refl [] w7).drewN k8) (by simp) (by simp)) f9 (by simp; omega) (by simp; omega))
        clear h9
        go_wp2_with fail
        refine (size_d HL9.out x).mono ?_
        rintro _ w10 ⟨rfl, h10, f10⟩
        have HO10 := Lib.hid (Own1.mk (LG.fr HO9.out.lm f10 (by simp; omega) (by simp; omega)) (HO9.out.fr.trans f10 (fun q hq => .inr (by simp at hq; omega))) HO9.out.pf HO9.out.g)
        have HL10 := Lib.hid h10; clear h10
        generalize sizeI n (EK K) x = sz at *
        go_wp2_with fail
        refine (trees_w HO10.out.lm).mono ?_
        rintro _ _ ⟨rfl, k11, rfl⟩
        go_wp2_with fail
        refine (trees_w (LG.fr HL10.out ((Fr.refl [] w10).drewN k11) (by simp) (by simp))).mono ?_
        rintro _ _ ⟨rfl, k12, rfl⟩
        have HO12 := Lib.hid (HO10.out.drew (k11 + k12))
        go_wp2_with fail
        refine (works_w _).mono ?_
        rintro _ w13 ⟨rfl, hB⟩
        go_wp2
        go_ret
        exact ⟨rfl, HO12.out.below.trans (hB.mono HO12.out.fr.size)⟩
      | succ j =>
        rw [show ((j + 1 : Nat) : Int) - 1 = (j : Int) by omega]
        obtain ⟨a1', c1', e1, hPF⟩ := pairs_of_row hown hKl
        simp only [Value.slice.injEq, true_and] at e1
        obtain ⟨rfl, rfl⟩ := e1
        obtain ⟨b, off, rfl, hb, q0, q1⟩ := hPF.2 j (by omega)
        dsimp only at q0 q1
        have hkl : (j : Int) < K.length := by omega
        have hk0 : (0 : Int) ≤ (j : Int) := by omega
        generalize hp : K.getD j (0, 0) = p at *
        have HP := Lib.hid hp; clear hp hPF
        go_wp2
        go_region_held3 (fun w' => w'.cell? ⟨b, off + j * 2, none⟩ = some (.int .i64 p.1) ∧ w'.cell? ⟨b, off + j * 2 + 1, none⟩ = some (.int .i64 p.2))
          (first
            | go_keep
            | (go_split_ands
               refine ⟨?_, ?_⟩
               · (rw [hgrow.cell_far _ (by simp; omega) (by simpa using fun e => (HQo.out b e.symm).2.2.2 rfl)]; assumption)
               · (rw [hgrow.cell_far _ (by simp; omega) (by simpa using fun e => (HQo.out b e.symm).2.2.2 rfl)]; assumption)))
          ((refine step_append_lies _ (by rfl) _ _ _ (by rfl) 0 30 i0 _ 2 16 Try.underlying22 hi hz0 hz1 hz2 rfl (by omega) (.slice a2 (K.length - (j + 1)) c2) (K.length - (j + 1)) _ (by rfl) ((hrow.alloc _).drew)
              ⟨wr.heap.size, 0, none⟩ 1 1 [.int .i64 p.2, .int .i64 p.1] (by rfl) (by rfl) (World.news_of_block (cs := #[.int .i64 p.2, .int .i64 p.1]) (t := 30) (fr := (0, 0)) (heap_alloc_new wr _)) (by simp [Value.oneCell'])
              (by omega) (by unfold maxLen; omega) (by omega) (by simp) (wr.heap.size + 1) (by simp) ?_; intro g' cap' w4 hown4 hgrow hat hlt4))
        go_wp2
        go_roundw
        case rel =>
          have hsz4 := hgrow.size
          simp only [World.size_alloc, World.size_drew] at hsz4
          have hF4 : Fr (Value.slice a2 (K.length - (j + 1)) c2).ownBlock.toList wr w4 := ⟨hgrow.os, hgrow.tape, hgrow.output, by omega, fun q hq hn => by
            rw [hgrow.block q (by simp; omega) (fun e => hn (by simp [← e]))]; exact Below.heap_alloc wr _ _ hq⟩
          have hKb : (K.reverse.map swp).take (K.length - j) = (K.reverse.map swp).take (K.length - (j + 1)) ++ [(p.2, p.1)] := by
            rw [show K.length - j = (K.length - (j + 1)) + 1 by omega, List.take_add_one]
            congr 1
            rw [List.getElem?_map, List.getElem?_reverse (by omega), show K.length - 1 - (K.length - (j + 1)) = j by omega, List.getElem?_eq_getElem (by omega)]
            have := HP.out
            rw [List.getD_eq_getElem?_getD, List.getElem?_eq_getElem (by omega)] at this
            simp at this
            rw [this]; rfl
          refine ⟨j, by omega, by go_num, Lib.hid ⟨LG.fr HO.out.lm hF4 (fun hm => (HQo.out pf (by simpa using hm)).2.1 rfl) (fun hm => (HQo.out g (by simpa using hm)).2.2.1 rfl), HO.out.fr.trans hF4 (fun q hq => .inr (HQo.out q (by simpa using hq)).1), HO.out.pf, HO.out.g⟩, ?_, ?_, Lib.hid (fun q e => ?_)⟩
          · exact ownsRow_same hown (fun q hq => hF4.keep q (hown.lt q hq).2 (fun hm => (HQo.out q (by simpa using hm)).2.2.2 hq))
          · rw [hKb, pairCells_snoc]
            have e2 : K.length - j = K.length - (j + 1) + 1 := by omega
            rw [e2]; exact hown4
          · simp only [Value.ownBlock, Option.some.injEq] at e
            subst e
            rcases hat with h | h
            · exact HQo.out _ h
            · obtain ⟨h1, h2, _⟩ := LG.lts HO.out.lm
              have h3 := HO.out.fr.size
              have h4 := hown.lt b rfl
              refine ⟨by omega, by omega, by omega, ?_⟩
              simp only [Value.ownBlock, ne_eq, Option.some.injEq]; omega
        case measure => simp [intOf]

end Go.Proofs.Ytoppjjgecgbbkaa

/- The document's search: of each vertex the next one on its path. The plain law. -/
namespace Go.Proofs.Ytoppjjgecgbbkaa
open Go.RowKit Classical
set_option maxHeartbeats 400000

/-- The vertex at the other end of an edge. -/
def other (v : Nat) (e : Nat × Nat) : Int := if e.2 = v then e.1 else if e.1 = v then e.2 else -1
def updI (nx : Nat → Int) (o : Nat) (v : Int) : Nat → Int := fun x => if x = o then v else nx x
/-- One edge. -/
def bfsE (v : Nat) (s : (Nat → Int) × List Nat) (e : Nat × Nat) : (Nat → Int) × List Nat :=
  if 0 ≤ other v e ∧ s.1 (other v e).toNat < 0 then (updI s.1 (other v e).toNat v, s.2 ++ [(other v e).toNat]) else s
def bfsI (v : Nat) (s : (Nat → Int) × List Nat) (L : List (Nat × Nat)) (i : Nat) : (Nat → Int) × List Nat := (L.take i).foldl (bfsE v) s

def NextOn (nx : Nat → Int) : List Nat → Prop
  | [] => True
  | [x] => nx x = x
  | x :: y :: l => nx x = y ∧ NextOn nx (y :: l)

theorem NextOn.vis {nx : Nat → Int} : ∀ {p : List Nat}, NextOn nx p → ∀ x ∈ p, 0 ≤ nx x
  | [], _, x, h => by cases h
  | [y], h, x, hx => by simp at hx; subst hx; have : nx x = x := h; omega
  | y :: z :: l, ⟨h1, h2⟩, x, hx => by
    rcases List.mem_cons.1 hx with rfl | hx
    · omega
    · exact NextOn.vis h2 x hx
theorem NextOn.upd {nx : Nat → Int} {o : Nat} {v : Int} (ho : nx o < 0) : ∀ {p : List Nat}, NextOn nx p → NextOn (updI nx o v) p
  | [], _ => trivial
  | [y], h => by
    have h : nx y = y := h
    show updI nx o v y = y
    unfold updI; rw [if_neg (by rintro rfl; omega)]; exact h
  | y :: z :: l, ⟨h1, h2⟩ => by
    refine ⟨?_, NextOn.upd ho h2⟩
    unfold updI; rw [if_neg (by rintro rfl; omega)]; exact h1
theorem NextOn.get {nx : Nat → Int} : ∀ {p : List Nat}, NextOn nx p → ∀ k (h : k + 1 < p.length), nx (p[k]'(by omega)) = (p[k + 1] : Nat)
  | [], _, k, h => by simp at h
  | [y], _, k, h => by simp at h
  | y :: z :: l, ⟨h1, h2⟩, k, h => by
    cases k with
    | zero => exact h1
    | succ k => exact NextOn.get h2 k (by simpa using h)

/-- What holds between two rounds. D: the vertices whose edges have all been looked at. -/
structure Bfs (n : Nat) (E : Nat → Nat → Prop) (to : Nat) (nx : Nat → Int) (todo : List Nat) (D : Nat → Prop) : Prop where
  root : nx to = to
  path : ∀ x, 0 ≤ nx x → x < n ∧ ∃ p, IsPath E x to p ∧ NextOn nx p
  queue : ∀ x ∈ todo, 0 ≤ nx x
  done : ∀ x, 0 ≤ nx x → x ∉ todo → D x → ∀ y, E x y → 0 ≤ nx y

section
variable {n : Nat} {E : Nat → Nat → Prop} {to : Nat}
theorem Bfs.start (hto : to < n) : Bfs n E to (updI (fun _ => -1) to to) [to] (fun _ => True) := by
  have h1 : ∀ x, 0 ≤ updI (fun _ => -1) to to x → x = to := by
    intro x hx; unfold updI at hx; split at hx
    · assumption
    · simp at hx
  refine ⟨by simp [updI], fun x hx => ?_, fun x hx => ?_, fun x hx hn _ y hy => ?_⟩
  · obtain rfl := h1 x hx
    exact ⟨hto, [x], isPath_self E x, by show updI _ x x x = x; simp [updI]⟩
  · simp at hx; subst hx; simp [updI]
  · exact absurd (h1 x hx) (by simpa using hn)

theorem vis_upd {nx : Nat → Int} {o v : Nat} {x : Nat} (h : 0 ≤ nx x) : 0 ≤ updI nx o v x := by
  unfold updI; split
  · omega
  · exact h

/-- The edges of v from number i on are still to be looked at. -/
structure Mid (n : Nat) (L : List (Nat × Nat)) (to v i : Nat) (s : (Nat → Int) × List Nat) : Prop where
  bfs : Bfs n (EK L) to s.1 s.2 (fun x => x ≠ v)
  now : 0 ≤ s.1 v
  seen : ∀ e ∈ L.take i, 0 ≤ other v e → 0 ≤ s.1 (other v e).toNat

theorem other_edge {L : List (Nat × Nat)} {v : Nat} {e : Nat × Nat} (he : e ∈ L) (h : 0 ≤ other v e) : EK L v (other v e).toNat ∧ ((other v e).toNat : Int) = other v e := by
  unfold other at *
  by_cases h2 : e.2 = v
  · simp only [h2, if_true] at h ⊢
    subst h2
    exact ⟨.inr he, by simp⟩
  · by_cases h1 : e.1 = v
    · simp only [h1, h2, if_true, if_false] at h ⊢
      subst h1
      exact ⟨.inl he, by simp⟩
    · simp only [h1, h2, if_false] at h; omega

theorem Mid.start {L : List (Nat × Nat)} {nx : Nat → Int} {v : Nat} {todo : List Nat} (h : Bfs n (EK L) to nx (v :: todo) (fun _ => True)) : Mid n L to v 0 (nx, todo) :=
  ⟨⟨h.root, h.path, fun x hx => h.queue x (by simp [hx]), fun x hx hn hD y hy => h.done x hx (by simp only [List.mem_cons, not_or]; exact ⟨hD, hn⟩) trivial y hy⟩, h.queue v (by simp), fun e he => by simp at he⟩

theorem Mid.next {L : List (Nat × Nat)} (hs : ∀ p ∈ L, p.1 < n ∧ p.2 < n) {v i : Nat} {s : (Nat → Int) × List Nat} (h : Mid n L to v i s) (hi : i < L.length) : Mid n L to v (i + 1) (bfsE v s L[i]) := by
  have hmem : L[i] ∈ L := List.getElem_mem hi
  have hseen : ∀ t : (Nat → Int) × List Nat, (∀ x, 0 ≤ s.1 x → 0 ≤ t.1 x) → (0 ≤ other v L[i] → 0 ≤ t.1 (other v L[i]).toNat) → ∀ e ∈ L.take (i + 1), 0 ≤ other v e → 0 ≤ t.1 (other v e).toNat := by
    intro t h1 h2 e he h0
    rw [List.take_add_one, List.getElem?_eq_getElem hi] at he
    simp only [List.mem_append, Option.toList_some, List.mem_singleton] at he
    rcases he with he | rfl
    · exact h1 _ (h.seen e he h0)
    · exact h2 h0
  unfold bfsE
  by_cases hc : 0 ≤ other v L[i] ∧ s.1 (other v L[i]).toNat < 0
  · rw [if_pos hc]
    obtain ⟨hE, _⟩ := other_edge hmem hc.1
    have hon : (other v L[i]).toNat < n := by
      rcases hE with hE | hE
      · exact (hs _ hE).2
      · exact (hs _ hE).1
    generalize hoo : (other v L[i]).toNat = o at *
    have hne : v ≠ o := by rintro rfl; have := h.now; omega
    refine ⟨⟨?_, ?_, ?_, ?_⟩, vis_upd h.now, hseen _ (fun x hx => vis_upd hx) (fun _ => by simp [updI])⟩
    · have := h.bfs.root
      show updI s.1 o v to = to
      unfold updI; rw [if_neg (by rintro rfl; omega)]; exact this
    · intro x hx
      by_cases e : x = o
      · subst e
        refine ⟨hon, ?_⟩
        obtain ⟨_, p, hp, hpn⟩ := h.bfs.path v h.now
        obtain ⟨l, rfl, hw, hnd, hl⟩ := hp
        have hxp : x ∉ v :: l := fun hm => by have := hpn.vis x hm; omega
        refine ⟨x :: v :: l, ⟨v :: l, rfl, ⟨hE.elim .inr .inl, hw⟩, List.nodup_cons.2 ⟨hxp, hnd⟩, by rw [List.getLast?_cons_cons]; exact hl⟩, ?_, hpn.upd hc.2⟩
        simp [updI]
      · have hx' : 0 ≤ s.1 x := by simp only [updI, if_neg e] at hx; exact hx
        obtain ⟨h1, p, hp, hpn⟩ := h.bfs.path x hx'
        exact ⟨h1, p, hp, hpn.upd hc.2⟩
    · intro x hx
      simp only [List.mem_append, List.mem_singleton] at hx
      rcases hx with hx | rfl
      · exact vis_upd (h.bfs.queue x hx)
      · simp [updI]
    · intro x hx hn hD y hy
      simp only [List.mem_append, List.mem_singleton, not_or] at hn
      have hx' : 0 ≤ s.1 x := by simp only [updI, if_neg hn.2] at hx; exact hx
      exact vis_upd (h.bfs.done x hx' hn.1 hD y hy)
  · rw [if_neg hc]
    refine ⟨h.bfs, h.now, hseen s (fun _ h => h) (fun h0 => ?_)⟩
    apply Classical.byContradiction
    intro hx
    exact hc ⟨h0, by omega⟩
theorem Mid.stop {L : List (Nat × Nat)} {v : Nat} {s : (Nat → Int) × List Nat} (h : Mid n L to v L.length s) : Bfs n (EK L) to s.1 s.2 (fun _ => True) := by
  refine ⟨h.bfs.root, h.bfs.path, h.bfs.queue, fun x hx hn _ y hy => ?_⟩
  by_cases e : x = v
  · subst e
    rcases hy with hy | hy
    · have := h.seen _ (by rw [List.take_length]; exact hy)
      unfold other at this
      by_cases e : y = x
      · subst e; exact hx
      · simp [e] at this; exact this
    · have := h.seen _ (by rw [List.take_length]; exact hy)
      unfold other at this
      simp at this; exact this
  · exact h.bfs.done x hx hn e y hy

/-- What the search answers. -/
theorem Bfs.conn {nx : Nat → Int} (h : Bfs n E to nx [] (fun _ => True)) (hf : Frs E) {x : Nat} : 0 ≤ nx x ↔ Conn E x to := by
  constructor
  · intro hx
    obtain ⟨_, p, hp, _⟩ := h.path x hx
    exact ⟨p, hp⟩
  · intro hc
    obtain ⟨p, l, rfl, hw, _, hl⟩ := hf.csymm hc
    have key : ∀ (l : List Nat) (a : Nat), 0 ≤ nx a → Wk E a l → ∀ b ∈ a :: l, 0 ≤ nx b := by
      intro l
      induction l with
      | nil => intro a ha _ b hb; simp at hb; subst hb; exact ha
      | cons y l ih =>
        intro a ha ⟨h1, h2⟩ b hb
        rcases List.mem_cons.1 hb with rfl | hb
        · exact ha
        · exact ih y (h.done a ha (by simp) trivial y h1) h2 b hb
    exact key l to (by rw [h.root]; omega) hw x (List.mem_of_getLast? hl)
theorem Bfs.next {nx : Nat → Int} (h : Bfs n E to nx [] (fun _ => True)) (hf : Frs E) {x : Nat} (hc : Conn E x to) : NextOn nx (thePath E x to) := by
  obtain ⟨_, p, hp, hpn⟩ := h.path x ((h.conn hf).2 hc)
  rw [thePath_eq hf hp]; exact hpn

/-- How many vertices the search has not reached yet. -/
noncomputable def unv (n : Nat) (nx : Nat → Int) : Nat := ((List.range n).filter fun x => decide (nx x < 0)).length
theorem unv_le (n : Nat) (nx : Nat → Int) : unv n nx ≤ n := by
  unfold unv
  exact Nat.le_trans (List.length_filter_le _ _) (by simp)
theorem unv_upd {nx : Nat → Int} {o v : Nat} (ho : o < n) (h : nx o < 0) : unv n (updI nx o v) + 1 = unv n nx := by
  unfold unv
  refine filter_drop_one List.nodup_range (List.mem_range.2 ho) (by simpa using h) (by simp [updI]) (fun x _ hx => ?_)
  simp [updI, hx]
theorem bfs_meas {v : Nat} {s : (Nat → Int) × List Nat} {e : Nat × Nat} (hs : e.1 < n ∧ e.2 < n) : 2 * unv n (bfsE v s e).1 + (bfsE v s e).2.length ≤ 2 * unv n s.1 + s.2.length := by
  unfold bfsE
  by_cases hc : 0 ≤ other v e ∧ s.1 (other v e).toNat < 0
  · rw [if_pos hc]
    have ho : (other v e).toNat < n := by
      unfold other at hc ⊢
      by_cases h2 : e.2 = v
      · simp [h2]; omega
      · by_cases h1 : e.1 = v
        · simp [h1, h2]; omega
        · simp [h1, h2] at hc
    have := unv_upd (v := v) ho hc.2
    simp only [List.length_append, List.length_singleton]; omega
  · rw [if_neg hc]; omega
end
end Go.Proofs.Ytoppjjgecgbbkaa

/- lct: Set and Key. -/
namespace Go.Proofs.Ytoppjjgecgbbkaa
open Go.RowKit Classical
set_option maxRecDepth 10000
set_option maxHeartbeats 800000

def setKey (n : Nat) (key : Nat → Int) (a : Int) (k : Int) : Nat → Int := fun v => if inV n a = true ∧ v = a.toNat then k else key v

def setCode (n : Nat) (a : Int) : Int := if inV n a then 0 else 3
def keyI (n : Nat) (key : Nat → Int) (a : Int) : Int := if inV n a then key a.toNat else 0

theorem key_w {w : World} {pf g n : Nat} {E : Nat → Nat → Prop} {key : Nat → Int} {ed : Int} (h : LG w pf g n E key ed) (a : Int) :
    Calls Try.prog 27 #[.pointer (some ⟨pf, 0, none⟩), .int .i64 a] w fun e w' => e = .returned (.int .i64 (keyI n key a)) ∧ w' = w := by
  obtain ⟨cap, σ, F, par, d, rt, hL, hF, hE, hk⟩ := h
  clear hF hE
  have HK := Lib.hid hk; clear hk
  have hN := hL.le
  have A1 := has_w hL a
  cases hva : inV n a with
  | false =>
    rw [hva] at A1
    have Hva := Lib.hid (show keyI n key a = 0 by unfold keyI; rw [hva]; rfl)
    have HA := Lib.hid A1; clear A1 hva
    go_enter Try.func27, Try.ntmps27
    go_wp2_with fail
    refine HA.out.mono ?_
    rintro _ w ⟨rfl, rfl⟩
    go_wp2
    go_ret
    exact ⟨by rw [Hva.out]; rfl, rfl⟩
  | true =>
    rw [hva] at A1
    have HA := Lib.hid A1; clear A1
    obtain ⟨v, rfl, hv⟩ := inV_nat hva
    have Hva := Lib.hid (show keyI n key (v : Int) = key v by unfold keyI; rw [hva]; rfl)
    clear hva
    have a4 := hL.nodes.c4 (v + 1) (by omega)
    rw [HK.out v hv] at a4
    have d1 := hL.hd.cell 1
    simp only [List.getElem?_cons_zero, List.getElem?_cons_succ] at d1
    have hv2 : ((v + 1 : Nat) : Int) < ((n + 1 : Nat) : Int) := by omega
    go_enter Try.func27, Try.ntmps27
    go_wp2_with fail
    refine HA.out.mono ?_
    rintro _ w ⟨rfl, rfl⟩
    go_wp2
    go_ret
    exact ⟨by rw [Hva.out]; rfl, rfl⟩

theorem set_w {w : World} {pf g n : Nat} {E : Nat → Nat → Prop} {key : Nat → Int} {ed : Int} (h : LG w pf g n E key ed) (a : Int) (k : Int) :
    Calls Try.prog 26 #[.pointer (some ⟨pf, 0, none⟩), .int .i64 a, .int .i64 k] w fun e w' => e = .returned (.int .i64 (setCode n a)) ∧ LG w' pf g n E (setKey n key a k) ed ∧ Fr [g] w w' := by
  have H := Lib.hid h
  obtain ⟨hp1, hg1, hn1⟩ := LG.lts h
  obtain ⟨cap, σ, F, par, d, rt, hL, hF, hE, hk⟩ := h
  have HF := Lib.hid hF; clear hF
  have HE := Lib.hid hE; clear hE
  have HK := Lib.hid hk; clear hk
  have hLa : LctAt (w.alloc (.cells #[.int .i64 a] 3)) pf g (n + 1) cap σ ed := hL.below ((Below.refl _ w).alloc (Nat.le_refl _) _) hp1 hg1
  have hblk := Blk.new w [.int .i64 a] 3
  have hFa : Fr [] w (w.alloc (.cells #[.int .i64 a] 3)) := (Fr.refl _ _).alloc _
  have HMa := Lib.hid (LG.fr H.out hFa (by simp) (by simp))
  have hCk := check_w hLa w.heap.size 1 (fun _ => a) (by decide) (fun k hk => by
    rw [hblk.cell]
    obtain rfl : k = 0 := by omega
    rfl)
  have HCk := Lib.hid hCk; clear hCk hblk hL
  go_enter Try.func26, Try.ntmps26
  go_wp2_with fail
  refine HCk.out.mono ?_
  rintro _ w1 ⟨hcode, rfl⟩
  clear HCk
  generalize w.alloc (.cells #[.int .i64 a] 3) = w1 at *
  rcases hcode with ⟨rfl, hall⟩ | ⟨rfl, j, hj, hbad⟩
  · have va : inV n a = true := hall 0 (by decide)
    clear hall
    obtain ⟨v, rfl, hv⟩ := inV_nat va
    have Hva := Lib.hid va; clear va
    go_wp2_with fail
    refine (expose_v hLa HF.out v hv).mono ?_
    rintro _ w2 ⟨m1, τ1, l1, R1, rfl, hL1, hE1, hF1⟩
    have HS := Lib.hid (hE1.lf.set k)
    have HE1 := Lib.hid hE1; clear hE1
    have d1 := hL1.hd.cell 1
    simp only [List.getElem?_cons_zero, List.getElem?_cons_succ] at d1
    have hfz := hL1.nodes.frozen
    have a4 := hL1.nodes.c4 (v + 1) (by omega)
    obtain ⟨hL2, hF2⟩ := hL1.st4 (Fr.refl [g] w2) (i := v + 1) (by omega) k
    have HL2 := Lib.hid (show LctAt _ pf g (n + 1) cap (set1 τ1 (v + 1) k) ed from hL2); clear hL2
    have hv2 : ((v + 1 : Nat) : Int) < ((n + 1 : Nat) : Int) := by omega
    go_wp2_with fail
    refine (refresh_v HL2.out v hv HS.out.2.2.2.2 HS.out.2.2.1 HS.out.2.2.2.1).mono ?_
    rintro _ w3 ⟨rfl, hL3, hF3⟩
    have HL3 := Lib.hid hL3; clear hL3
    go_wp2
    go_ret
    rw [show setCode n (v : Int) = 0 by unfold setCode; rw [Hva.out]; rfl]
    refine ⟨rfl, ⟨cap, _, _, par, d, rt, HL3.out, HS.out.1, HE.out, fun x hx => ?_⟩, (hFa.mono (S' := [g]) (by simp)).then (hF1.then (hF2.then hF3))⟩
    rw [HS.out.2.1]
    unfold setKey
    by_cases e : x = v
    · subst e; rw [if_pos rfl, if_pos ⟨Hva.out, by simp⟩]
    · rw [if_neg (by omega), if_neg (by simp; omega), HE1.out.key]; exact HK.out x hx
  · have hva : inV n a = false := hbad
    have Hva := Lib.hid hva; clear hva hbad
    go_wp2
    go_ret
    rw [show setCode n a = 3 by unfold setCode; rw [Hva.out]; rfl]
    refine ⟨rfl, ?_, hFa.mono (by simp)⟩
    have : setKey n key a k = key := by
      funext x; unfold setKey; rw [if_neg (by simp [Hva.out])]
    rw [this]; exact HMa.out

end Go.Proofs.Ytoppjjgecgbbkaa

/- lct: Min. -/
namespace Go.Proofs.Ytoppjjgecgbbkaa
open Go.RowKit
set_option maxRecDepth 10000
set_option maxHeartbeats 800000

/-- The first vertex of a list: by its key, then its number. -/
def FirstOf (key : Nat → Int) (p : List Nat) (m : Nat) : Prop := m ∈ p ∧ ∀ x ∈ p, x ≠ m → key m < key x ∨ (key m = key x ∧ m < x)

theorem min_w {w : World} {pf g n : Nat} {E : Nat → Nat → Prop} {key : Nat → Int} {ed : Int} (h : LG w pf g n E key ed) (a b : Int) : Calls Try.prog 28 #[.pointer (some ⟨pf, 0, none⟩), .int .i64 a, .int .i64 b] w fun e w' => ((¬ ConnI n E a b ∧ e = .returned (.tuple #[.int .i64 0, .bool false])) ∨ ∃ (v u : Nat) (p : List Nat) (m : Nat), a = v ∧ b = u ∧ v < n ∧ u < n ∧ IsPath E v u p ∧ (∀ x ∈ p, x < n) ∧ FirstOf key p m ∧ e = .returned (.tuple #[.int .i64 m, .bool true])) ∧ LG w' pf g n E key ed ∧ Fr [g] w w' := by
  go_enter Try.func28, Try.ntmps28
  go_wp2_with fail
  refine (connected_w h a b).mono ?_
  rintro _ w2 ⟨r, rfl, hr, h2, hF2⟩
  have HR := Lib.hid hr; clear hr
  cases r with
  | false =>
    have H2 := Lib.hid h2; clear h2 h
    go_wp2
    go_ret2
    exact ⟨.inl ⟨fun e => (by have := HR.out.2 e; cases this), rfl⟩, H2.out, hF2⟩
  | true =>
    obtain ⟨va, vb, hc⟩ := HR.out.1 rfl
    obtain ⟨v, rfl, hv⟩ := inV_nat va
    obtain ⟨u, rfl, hu⟩ := inV_nat vb
    clear va vb HR h
    obtain ⟨cap, σ, F, par, d, rt, hL, hF, hE, hk⟩ := h2
    have hrt := (conn_rt hF.rtd hE).1 hc
    have HF := Lib.hid hF; clear hF
    have HE := Lib.hid hE; clear hE
    have HK := Lib.hid hk; clear hk
    have hN := hL.le
    go_wp2_with fail
    refine (path_v hL HF.out v u hv hu).mono ?_
    rintro _ w3 ⟨rfl, τ, l, R, par', d', rt', hL3, hP, hF3⟩
    obtain ⟨p, hp1, hp2, hp3⟩ := hP.at HE.out hrt
    have hbest : ∃ m, (τ (u + 1)).first = m + 1 ∧ m < n ∧ FirstOf key p m := by
      have h1 := (hP.lf.rep _ (List.mem_cons_self)).2.2.2.2.2
      have hmem : ∀ x, x ∈ (BT.node false l (u + 1) .nil).nodes ↔ x ∈ p.map (· + 1) := by
        intro x; rw [← seq_mem, hp2]; simp [BT.seq]
      have hkey : ∀ x, x < n → (τ (x + 1)).key = key x := fun x hx => by rw [hP.key]; exact HK.out x hx
      obtain ⟨m, hm, e⟩ := List.mem_map.1 ((hmem _).1 h1.1)
      refine ⟨m, e.symm, hp3 m hm, hm, fun x hx hne => ?_⟩
      have := h1.2 (x + 1) ((hmem _).2 (List.mem_map.2 ⟨x, hx, rfl⟩)) (by rw [← e]; omega)
      rw [← e] at this
      unfold beforeB at this
      rw [hkey m (hp3 m hm), hkey x (hp3 x hx)] at this
      simp only [Bool.or_eq_true, Bool.and_eq_true, decide_eq_true_eq] at this
      omega
    obtain ⟨m, q1, q2, q3⟩ := hbest
    have a6 := hL3.nodes.c6 (u + 1) (by omega)
    rw [q1] at a6
    have HP := Lib.hid hP; clear hP
    have Hp := Lib.hid (And.intro hp1 (And.intro hp3 q3)); clear hp1 hp2 hp3 q1 q3
    have d1 := hL3.hd.cell 1
    simp only [List.getElem?_cons_zero, List.getElem?_cons_succ] at d1
    have hu2 : ((u + 1 : Nat) : Int) < ((n + 1 : Nat) : Int) := by omega
    have hw1 : ((m + 1 : Nat) : Int) - 1 = m := by omega
    go_wp2
    go_ret2
    exact ⟨.inr ⟨v, u, p, m, rfl, rfl, hv, hu, Hp.out.1, Hp.out.2.1, Hp.out.2.2, rfl⟩, HP.out.lg hL3 HE.out HK.out, hF2.then hF3⟩

end Go.Proofs.Ytoppjjgecgbbkaa

namespace Go.Proofs.Ytoppjjgecgbbkaa
open Go.RowKit Classical
set_option maxRecDepth 10000
set_option maxHeartbeats 800000

section
variable {n : Nat} {E : Nat → Nat → Prop} {a b c : Int}
theorem conn_swap (h : Frs E) : connB n E a b = connB n E b a := by
  rw [Bool.eq_iff_iff, connB_iff, connB_iff]
  exact ⟨fun ⟨x, y, z⟩ => ⟨y, x, h.csymm z⟩, fun ⟨x, y, z⟩ => ⟨y, x, h.csymm z⟩⟩
theorem conn_tr (h : Frs E) (h1 : connB n E a b = true) (h2 : connB n E b c = true) : connB n E a c = true := by
  rw [connB_iff] at *
  exact ⟨h1.1, h2.2.1, h.ctrans h1.2.2 h2.2.2⟩
theorem meetB_turn (h : Frs E) : meetB n E c a b = meetB n E a b c := by
  unfold meetB
  rw [Bool.eq_iff_iff, Bool.and_eq_true, Bool.and_eq_true]
  constructor
  · rintro ⟨h1, h2⟩
    exact ⟨h2, conn_tr h ((conn_swap h).trans h2) ((conn_swap h).trans h1)⟩
  · rintro ⟨h1, h2⟩
    exact ⟨conn_tr h ((conn_swap h).trans h2) ((conn_swap h).trans h1), h1⟩
theorem meetB_swap (h : Frs E) : meetB n E b a c = meetB n E a b c := by
  unfold meetB
  rw [Bool.eq_iff_iff, Bool.and_eq_true, Bool.and_eq_true]
  constructor
  · rintro ⟨h1, h2⟩
    exact ⟨(conn_swap h).trans h1, conn_tr h h1 h2⟩
  · rintro ⟨h1, h2⟩
    exact ⟨(conn_swap h).trans h1, conn_tr h h1 h2⟩
theorem meets_turn {a b c m : Nat} (hm : MeetsAt E a b c m) : MeetsAt E c a b m := by
  obtain ⟨p, q, r, h1, h2, h3, h4⟩ := hm
  exact ⟨r, p, q, h3, h1, h2, fun x => by rw [← h4 x]; exact ⟨fun ⟨u, v, w⟩ => ⟨v, w, u⟩, fun ⟨u, v, w⟩ => ⟨w, u, v⟩⟩⟩
theorem meets_swap (h : Frs E) {a b c m : Nat} (hm : MeetsAt E a b c m) : MeetsAt E b a c m := by
  obtain ⟨p, q, r, h1, h2, h3, h4⟩ := hm
  have hs : ∀ v u, E v u → E u v := fun _ _ e => h.symm e
  exact ⟨p.reverse, r.reverse, q.reverse, h1.rev hs, h3.rev hs, h2.rev hs, fun x => by simp only [List.mem_reverse]; rw [← h4 x]; exact ⟨fun ⟨u, v, w⟩ => ⟨u, w, v⟩, fun ⟨u, v, w⟩ => ⟨u, w, v⟩⟩⟩
/-- The paths between three connected vertices meet. -/
theorem meets_ex (h : Frs E) {a b c : Nat} (h1 : Conn E a b) (h2 : Conn E b c) : ∃ m, MeetsAt E a b c m := by
  obtain ⟨p, hp⟩ := h1
  obtain ⟨q, hq⟩ := h.ctrans ⟨p, hp⟩ h2
  -- the last vertex of the path to c that lies on the path to b
  have key : ∀ (l A : List Nat), A ++ l = q → (∀ x ∈ l, x ∉ p) ∨ ∃ C m D, q = C ++ m :: D ∧ m ∈ p ∧ ∀ x ∈ D, x ∉ p := by
    intro l
    induction l with
    | nil => intro A _; exact .inl (fun x hx => by cases hx)
    | cons y l ih =>
      intro A hA
      rcases ih (A ++ [y]) (by simp [hA]) with h1 | h1
      · by_cases hy : y ∈ p
        · exact .inr ⟨A, y, l, hA.symm, hy, h1⟩
        · exact .inl (fun x hx => by rcases List.mem_cons.1 hx with rfl | hx; exact hy; exact h1 x hx)
      · exact .inr h1
  rcases key q [] rfl with h0 | ⟨C, m, D, rfl, hm, hD⟩
  · obtain ⟨l, rfl⟩ := hq.first
    obtain ⟨l', rfl⟩ := hp.first
    exact absurd (by simp) (h0 a (by simp))
  · obtain ⟨A, R, rfl⟩ := List.append_of_mem hm
    have e := h.unique hp.split.1 hq.split.1
    have e2 : A = C := by simpa using e
    subst e2
    exact ⟨m, meet_paths h hp hq hD⟩
theorem meetI_turn (h : Frs E) : meetI n E c a b = meetI n E a b c := by
  unfold meetI
  rw [meetB_turn h]
  by_cases hb : meetB n E a b c = true
  · rw [if_pos hb, if_pos hb]
    unfold meetB at hb
    rw [Bool.and_eq_true, connB_iff, connB_iff] at hb
    obtain ⟨m, hm⟩ := meets_ex h hb.1.2.2 hb.2.2.2
    rw [theMeet_eq h hm, theMeet_eq h (meets_turn hm)]
  · rw [if_neg hb, if_neg hb]
theorem meetI_swap (h : Frs E) : meetI n E b a c = meetI n E a b c := by
  unfold meetI
  rw [meetB_swap h]
  by_cases hb : meetB n E a b c = true
  · rw [if_pos hb, if_pos hb]
    unfold meetB at hb
    rw [Bool.and_eq_true, connB_iff, connB_iff] at hb
    obtain ⟨m, hm⟩ := meets_ex h hb.1.2.2 hb.2.2.2
    rw [theMeet_eq h hm, theMeet_eq h (meets_swap h hm)]
  · rw [if_neg hb, if_neg hb]

theorem wk_lt (hlt : ∀ v u, E v u → v < n ∧ u < n) : ∀ {a : Nat} {l : List Nat}, Wk E a l → ∀ x ∈ l, x < n
  | _, y :: l, ⟨h1, h2⟩, x, hx => by
    rcases List.mem_cons.1 hx with rfl | hx
    · exact (hlt _ _ h1).2
    · exact wk_lt hlt h2 x hx
theorem dist_over (h : Frs E) (hlt : ∀ v u, E v u → v < n ∧ u < n) {a b m : Nat} (ha : a < n) (hb : b < n) {p : List Nat} (hp : IsPath E a b p) (hm : m ∈ p) : distI n E a m + distI n E m b = distI n E a b := by
  obtain ⟨A, B, rfl⟩ := List.append_of_mem hm
  have hmn : m < n := by
    obtain ⟨l, e, hw, _⟩ := hp
    rw [e] at hm
    rcases List.mem_cons.1 hm with rfl | hm
    · exact ha
    · exact wk_lt hlt hw m hm
  rw [dist_nat h ha hb hp, dist_nat h ha hmn hp.split.1, dist_nat h hmn hb hp.split.2]
  simp only [List.length_append, List.length_cons, List.length_nil]
  omega
theorem dist_le (h : Frs E) (hlt : ∀ v u, E v u → v < n ∧ u < n) (a b : Int) : -1 ≤ distI n E a b ∧ distI n E a b ≤ n := by
  by_cases hc : ConnI n E a b
  · obtain ⟨va, vb, p, hp⟩ := hc
    obtain ⟨x, rfl, hx⟩ := inV_nat va
    obtain ⟨y, rfl, hy⟩ := inV_nat vb
    simp only [Int.toNat_natCast] at hp
    rw [dist_nat h hx hy hp]
    have h1 : p.length ≤ n := nodup_le hp.nd (fun z hz => by
      obtain ⟨l, rfl, hw, _⟩ := hp
      rcases List.mem_cons.1 hz with rfl | hz
      · exact hx
      · exact wk_lt hlt hw z hz)
    have h2 : 0 < p.length := List.length_pos_iff.2 hp.ne
    omega
  · unfold distI; rw [if_neg hc]; omega
end

/-- The three equations between distances. -/
theorem meets_dist {n : Nat} {E : Nat → Nat → Prop} (h : Frs E) (hlt : ∀ v u, E v u → v < n ∧ u < n) {a b c : Int} (hm : meetB n E a b c = true) :
    distI n E a (meetI n E a b c) + distI n E (meetI n E a b c) b = distI n E a b ∧ distI n E b (meetI n E a b c) + distI n E (meetI n E a b c) c = distI n E b c ∧ distI n E c (meetI n E a b c) + distI n E (meetI n E a b c) a = distI n E c a := by
  have hm' := hm
  unfold meetB at hm
  rw [Bool.and_eq_true, connB_iff, connB_iff] at hm
  obtain ⟨va, vb, c1⟩ := hm.1
  obtain ⟨_, vc, c2⟩ := hm.2
  obtain ⟨x, rfl, hx⟩ := inV_nat va
  obtain ⟨y, rfl, hy⟩ := inV_nat vb
  obtain ⟨z, rfl, hz⟩ := inV_nat vc
  simp only [Int.toNat_natCast] at c1 c2
  obtain ⟨m, hmt⟩ := meets_ex h c1 c2
  have e : meetI n E x y z = m := by unfold meetI; rw [hm', if_pos rfl, Int.toNat_natCast, Int.toNat_natCast, Int.toNat_natCast, theMeet_eq h hmt]
  rw [e]
  obtain ⟨p, q, r, q1, q2, q3, q4⟩ := hmt
  obtain ⟨m1, m2, m3⟩ := (q4 m).2 rfl
  exact ⟨dist_over h hlt hx hy q1 m1, dist_over h hlt hy hz q2 m2, dist_over h hlt hz hx q3 m3⟩

theorem walk_lctMeets (W : World) (n : Int) (_wn : (Lit.int .i64 n).wf = true) (a : Option Addr) (len cap : Nat) (z : Nat → Int × Int) (hz : PairsF W a len z) (t : Int × Int × Int) (_ht : True) :
    Calls Try.prog 4 #[.int .i64 n, .slice a len cap, .agg #[.int .i64 t.1, .int .i64 t.2.1, .int .i64 t.2.2]] W fun e w' => e = .returned (.bool true) ∧ Below W.heap.size W w' := by
  obtain ⟨t0, t1, t2⟩ := t
  have hlen := hz.1
  have HZ := Lib.hid hz; clear hz
  go_enter Try.func4, Try.ntmps4
  go_wp2_with fail
  have hB0 : Below W.heap.size W (W.alloc (.cells #[.int .i64 t0, .int .i64 t1, .int .i64 t2] 34)) := (Below.refl _ W).alloc (Nat.le_refl _) _
  have hblk := Blk.new W [.int .i64 t0, .int .i64 t1, .int .i64 t2] 34
  have hs0 : (W.alloc (.cells #[.int .i64 t0, .int .i64 t1, .int .i64 t2] 34)).heap.size = W.heap.size + 1 := by simp
  generalize W.alloc (.cells #[.int .i64 t0, .int .i64 t1, .int .i64 t2] 34) = W0 at *
  have c0 : W0.cell? ⟨W.heap.size, 0, none⟩ = some (.int .i64 t0) := hblk.cell 0
  have c1 : W0.cell? ⟨W.heap.size, 1, none⟩ = some (.int .i64 t1) := hblk.cell 1
  have c2 : W0.cell? ⟨W.heap.size, 2, none⟩ = some (.int .i64 t2) := hblk.cell 2
  have HC := Lib.hid (And.intro c0 (And.intro c1 c2)); clear c0 c1 c2 hblk
  have HZ0 := Lib.hid (HZ.out.below hB0)
  refine (small_w W0 n a len cap hlen).mono ?_
  rintro _ w ⟨rfl, rfl⟩
  cases hsm : smallB n len with
  | false =>
    go_wp2_with fail
    refine (works_w w).mono ?_
    rintro _ w2 ⟨rfl, hB⟩
    go_wp2
    go_ret
    exact ⟨rfl, hB0.trans (hB.mono hB0.size)⟩
  | true =>
    have hn : 0 ≤ n ∧ n ≤ 120 ∧ len ≤ 120 := by simp [smallB] at hsm; omega
    clear hsm
    obtain ⟨n, rfl⟩ : ∃ m : Nat, n = m := ⟨n.toNat, by omega⟩
    obtain ⟨_, hn1, hn2⟩ := hn
    have hn3 : n ≤ 120 := by omega
    go_wp2_with fail
    refine (grown_w w n hn3 a len cap hn2 z HZ0.out).mono ?_
    rintro _ w1 ⟨pf, g, v, rfl, hO, hown, hq⟩
    obtain ⟨a9, c9, rfl⟩ := ownsRow_slice hown
    clear hown hq
    have Hfs := Lib.hid (LG.frs hO.lm)
    have Hlt := Lib.hid (fun v u => LG.edge_lt hO.lm (v := v) (u := u))
    have HO := Lib.hid hO; clear hO
    generalize EK (growK n z len) = E at *
    have e0 := (HO.out.below.cell (p := ⟨W.heap.size, 0, none⟩) (by show W.heap.size < _; omega)).trans HC.out.1
    have e1 := (HO.out.below.cell (p := ⟨W.heap.size, 1, none⟩) (by show W.heap.size < _; omega)).trans HC.out.2.1
    have e2 := (HO.out.below.cell (p := ⟨W.heap.size, 2, none⟩) (by show W.heap.size < _; omega)).trans HC.out.2.2
    go_wp2_with fail
    refine (meet_d HO.out.lm t0 t1 t2).mono ?_
    rintro _ w2 ⟨rfl, h2, f2⟩
    have HO2 := Lib.hid (HO.out.ask h2 f2); clear h2 e0 e1 e2
    have e0 := (HO2.out.below.cell (p := ⟨W.heap.size, 0, none⟩) (by show W.heap.size < _; omega)).trans HC.out.1
    have e1 := (HO2.out.below.cell (p := ⟨W.heap.size, 1, none⟩) (by show W.heap.size < _; omega)).trans HC.out.2.1
    have e2 := (HO2.out.below.cell (p := ⟨W.heap.size, 2, none⟩) (by show W.heap.size < _; omega)).trans HC.out.2.2
    have M2 := meet_d HO2.out.lm t2 t0 t1
    rw [meetI_turn Hfs.out, meetB_turn Hfs.out] at M2
    have HM2 := Lib.hid M2; clear M2
    go_wp2_with fail
    refine HM2.out.mono ?_
    rintro _ w3 ⟨rfl, h3, f3⟩
    have HO3 := Lib.hid (HO2.out.ask h3 f3); clear h3 e0 e1 e2 HM2
    have e0 := (HO3.out.below.cell (p := ⟨W.heap.size, 0, none⟩) (by show W.heap.size < _; omega)).trans HC.out.1
    have e1 := (HO3.out.below.cell (p := ⟨W.heap.size, 1, none⟩) (by show W.heap.size < _; omega)).trans HC.out.2.1
    have e2 := (HO3.out.below.cell (p := ⟨W.heap.size, 2, none⟩) (by show W.heap.size < _; omega)).trans HC.out.2.2
    have M3 := meet_d HO3.out.lm t1 t0 t2
    rw [meetI_swap Hfs.out, meetB_swap Hfs.out] at M3
    have HM3 := Lib.hid M3; clear M3
    go_wp2_with fail
    refine HM3.out.mono ?_
    rintro _ w4 ⟨rfl, h4, f4⟩
    have HO4 := Lib.hid (HO3.out.ask h4 f4); clear h4 e0 e1 e2 HM3 HO HO2 HO3
    have e0 := (HO4.out.below.cell (p := ⟨W.heap.size, 0, none⟩) (by show W.heap.size < _; omega)).trans HC.out.1
    have e1 := (HO4.out.below.cell (p := ⟨W.heap.size, 1, none⟩) (by show W.heap.size < _; omega)).trans HC.out.2.1
    have e2 := (HO4.out.below.cell (p := ⟨W.heap.size, 2, none⟩) (by show W.heap.size < _; omega)).trans HC.out.2.2
    have hD := fun hm => meets_dist (n := n) Hfs.out Hlt.out (a := t0) (b := t1) (c := t2) hm
    have HD := Lib.hid hD; clear hD
    have hmb : meetB n E t0 t1 t2 = (connB n E t0 t1 && connB n E t1 t2) := rfl
    have hC1 := Lib.hid (connected_d HO4.out.lm t0 t1)
    generalize hmI : meetI n E t0 t1 t2 = mI at *
    generalize hmB : meetB n E t0 t1 t2 = mB at *
    clear hmI
    cases hc1 : connB n E t0 t1 with
    | false =>
      rw [hc1] at hC1 hmb
      simp only [Bool.false_and] at hmb
      subst hmb
      clear HD hmB hc1
      go_wp2_with fail
      refine hC1.out.mono ?_
      rintro _ w5 ⟨rfl, h5, f5⟩
      have HO5 := Lib.hid (HO4.out.ask h5 f5); clear h5
      go_wp2_with fail
      refine (works_w _).mono ?_
      rintro _ w6 ⟨rfl, hB⟩
      go_wp2
      go_ret
      have hb5 := HO5.out.below
      exact ⟨rfl, hB0.trans ((hb5.trans (hB.mono hb5.size)).mono hB0.size)⟩
    | true =>
      rw [hc1] at hC1 hmb
      simp only [Bool.true_and] at hmb
      have Hmb := Lib.hid hmb; clear hmb hc1 hmB
      go_wp2_with fail
      refine hC1.out.mono ?_
      rintro _ w5 ⟨rfl, h5, f5⟩
      have HO5 := Lib.hid (HO4.out.ask h5 f5); clear h5 e0 e1 e2
      have e0 := (HO5.out.below.cell (p := ⟨W.heap.size, 0, none⟩) (by show W.heap.size < _; omega)).trans HC.out.1
      have e1 := (HO5.out.below.cell (p := ⟨W.heap.size, 1, none⟩) (by show W.heap.size < _; omega)).trans HC.out.2.1
      have e2 := (HO5.out.below.cell (p := ⟨W.heap.size, 2, none⟩) (by show W.heap.size < _; omega)).trans HC.out.2.2
      have hC2 := connected_d HO5.out.lm t1 t2
      rw [← Hmb.out] at hC2
      have HC2 := Lib.hid hC2; clear hC2 Hmb
      cases mB with
      | false =>
        clear HD
        go_wp2_with fail
        refine HC2.out.mono ?_
        rintro _ w6 ⟨rfl, h6, f6⟩
        have HO6 := Lib.hid (HO5.out.ask h6 f6); clear h6
        go_wp2_with fail
        refine (works_w _).mono ?_
        rintro _ w7 ⟨rfl, hB⟩
        go_wp2
        go_ret
        have hb6 := HO6.out.below
        exact ⟨rfl, hB0.trans ((hb6.trans (hB.mono hb6.size)).mono hB0.size)⟩
      | true =>
        have HD' := Lib.hid (HD.out rfl)
        clear HD
        have HD := HD'
        go_wp2_with fail
        refine HC2.out.mono ?_
        rintro _ w6 ⟨rfl, h6, f6⟩
        have HO6 := Lib.hid (HO5.out.ask h6 f6); clear h6 e0 e1 e2 HO4 HO5 HC2 hC1
        go_wp2
        go_loopw [15] (fun x wr => ∃ k : Nat, k ≤ 3 ∧ x = .int .i64 k ∧ Hid (Own1 w wr pf g n E (fun _ => 0))) (fun x _ => 3 - (intOf x).toNat)
        case atStart => exact ⟨0, by omega, rfl, HO6⟩
        case round =>
          clear HO6
          obtain ⟨k, hk, rfl, HO⟩ := hrel
          rcases (show k = 0 ∨ k = 1 ∨ k = 2 ∨ k = 3 by omega) with rfl | rfl | rfl | rfl
          · have D1 := dist_d HO.out.lm t0 (mI : Int)
            have hne : ((distI n E t0 mI + distI n E mI t1) != distI n E t0 t1) = false := by rw [HD.out.1]; simp
            have g1 := dist_le Hfs.out Hlt.out t0 (mI : Int)
            have g2 := dist_le Hfs.out Hlt.out (mI : Int) t1
            have e0 := (HO.out.below.cell (p := ⟨W.heap.size, 0, none⟩) (by show W.heap.size < _; omega)).trans HC.out.1
            have e1 := (HO.out.below.cell (p := ⟨W.heap.size, 1, none⟩) (by show W.heap.size < _; omega)).trans HC.out.2.1
            have HD1 := Lib.hid D1; clear D1
            go_wp2_with fail
            refine HD1.out.mono ?_
            rintro _ w5 ⟨rfl, h5, f5⟩
            have HO5 := Lib.hid (HO.out.ask h5 f5); clear HD1 h5
            go_wp2_with fail
            refine (dist_d HO5.out.lm (mI : Int) t1).mono ?_
            rintro _ w6 ⟨rfl, h6, f6⟩
            have HO6 := Lib.hid (HO5.out.ask h6 f6); clear h6
            go_wp2_with fail
            refine (dist_d HO6.out.lm t0 t1).mono ?_
            rintro _ w7 ⟨rfl, h7, f7⟩
            have HO7 := Lib.hid (HO6.out.ask h7 f7); clear h7
            generalize distI n E t0 mI = x1 at *
            generalize distI n E mI t1 = x2 at *
            generalize distI n E t0 t1 = x3 at *
            go_wp2
            go_roundw
            case rel => exact ⟨1, by omega, by go_num, HO7⟩
            case measure => simp [intOf]
          · have D1 := dist_d HO.out.lm t1 (mI : Int)
            have hne : ((distI n E t1 mI + distI n E mI t2) != distI n E t1 t2) = false := by rw [HD.out.2.1]; simp
            have g1 := dist_le Hfs.out Hlt.out t1 (mI : Int)
            have g2 := dist_le Hfs.out Hlt.out (mI : Int) t2
            have e0 := (HO.out.below.cell (p := ⟨W.heap.size, 1, none⟩) (by show W.heap.size < _; omega)).trans HC.out.2.1
            have e1 := (HO.out.below.cell (p := ⟨W.heap.size, 2, none⟩) (by show W.heap.size < _; omega)).trans HC.out.2.2
            have HD1 := Lib.hid D1; clear D1
            go_wp2_with fail
            refine HD1.out.mono ?_
            rintro _ w5 ⟨rfl, h5, f5⟩
            have HO5 := Lib.hid (HO.out.ask h5 f5); clear HD1 h5
            go_wp2_with fail
            refine (dist_d HO5.out.lm (mI : Int) t2).mono ?_
            rintro _ w6 ⟨rfl, h6, f6⟩
            have HO6 := Lib.hid (HO5.out.ask h6 f6); clear h6
            go_wp2_with fail
            refine (dist_d HO6.out.lm t1 t2).mono ?_
            rintro _ w7 ⟨rfl, h7, f7⟩
            have HO7 := Lib.hid (HO6.out.ask h7 f7); clear h7
            generalize distI n E t1 mI = x1 at *
            generalize distI n E mI t2 = x2 at *
            generalize distI n E t1 t2 = x3 at *
            go_wp2
            go_roundw
            case rel => exact ⟨2, by omega, by go_num, HO7⟩
            case measure => simp [intOf]
          · have D1 := dist_d HO.out.lm t2 (mI : Int)
            have hne : ((distI n E t2 mI + distI n E mI t0) != distI n E t2 t0) = false := by rw [HD.out.2.2]; simp
            have g1 := dist_le Hfs.out Hlt.out t2 (mI : Int)
            have g2 := dist_le Hfs.out Hlt.out (mI : Int) t0
            have e0 := (HO.out.below.cell (p := ⟨W.heap.size, 2, none⟩) (by show W.heap.size < _; omega)).trans HC.out.2.2
            have e1 := (HO.out.below.cell (p := ⟨W.heap.size, 0, none⟩) (by show W.heap.size < _; omega)).trans HC.out.1
            have HD1 := Lib.hid D1; clear D1
            go_wp2_with fail
            refine HD1.out.mono ?_
            rintro _ w5 ⟨rfl, h5, f5⟩
            have HO5 := Lib.hid (HO.out.ask h5 f5); clear HD1 h5
            go_wp2_with fail
            refine (dist_d HO5.out.lm (mI : Int) t0).mono ?_
            rintro _ w6 ⟨rfl, h6, f6⟩
            have HO6 := Lib.hid (HO5.out.ask h6 f6); clear h6
            go_wp2_with fail
            refine (dist_d HO6.out.lm t2 t0).mono ?_
            rintro _ w7 ⟨rfl, h7, f7⟩
            have HO7 := Lib.hid (HO6.out.ask h7 f7); clear h7
            generalize distI n E t2 mI = x1 at *
            generalize distI n E mI t0 = x2 at *
            generalize distI n E t2 t0 = x3 at *
            go_wp2
            go_roundw
            case rel => exact ⟨3, by omega, by go_num, HO7⟩
            case measure => simp [intOf]
          · go_wp2_with fail
            refine (works_w _).mono ?_
            rintro _ w7 ⟨rfl, hB⟩
            go_wp2
            go_ret
            have hb6 := HO.out.below
            exact ⟨rfl, hB0.trans ((hb6.trans (hB.mono hb6.size)).mono hB0.size)⟩

end Go.Proofs.Ytoppjjgecgbbkaa
