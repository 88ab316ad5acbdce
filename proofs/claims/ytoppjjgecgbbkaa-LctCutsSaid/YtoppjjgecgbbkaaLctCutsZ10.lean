/- A region that draws its order, whose operations give the same values in every world of a class and keep the class: one walk in the order of the text serves every order. -/
import Derived.Deep.RegionHeld3
import Derived.Deep.AppendLies
import Derived.Test.YtoppjjgecgbbkaaLctCutsZ9
import Derived.Test.YtoppjjgecgbbkaaLctCutsZ8
import Derived.ChangeKeysEq
import Derived.Test.YtoppjjgecgbbkaaLctCutsZ1
/- LctOrder: the plain law, and the walk. -/
namespace Go.Proofs.Ytoppjjgecgbbkaa
open Go.RowKit Classical
set_option maxRecDepth 10000
set_option maxHeartbeats 800000

def swp (p : Nat × Nat) : Nat × Nat := (p.2, p.1)
/-- No edge is there twice, in either direction. -/
def Once (K : List (Nat × Nat)) : Prop := K.Pairwise fun p q => p ≠ q ∧ p ≠ swp q
theorem EK_congr {K L : List (Nat × Nat)} (h : ∀ p, (p ∈ K ∨ swp p ∈ K) ↔ (p ∈ L ∨ swp p ∈ L)) : EK K = EK L := E_ext (fun v u => h (v, u))
theorem EK_back (K : List (Nat × Nat)) : EK (K.reverse.map swp) = EK K := by
  refine EK_congr (fun p => ?_)
  have h1 : ∀ p : Nat × Nat, p ∈ K.reverse.map swp ↔ swp p ∈ K := by
    intro p
    rw [List.mem_map]
    constructor
    · rintro ⟨q, hq, rfl⟩; simpa [swp] using hq
    · intro h; exact ⟨swp p, by simpa using h, by simp [swp]⟩
  rw [h1, h1]
  have : swp (swp p) = p := by simp [swp]
  rw [this]; exact or_comm

/-- What was linked: different edges between vertices; a forest. -/
theorem growK_once (n : Nat) (z : Nat → Int × Int) : ∀ k, Once (growK n z k) ∧ ∀ p ∈ growK n z k, p.1 < n ∧ p.2 < n ∧ p.1 ≠ p.2
  | 0 => ⟨.nil, fun p hp => by cases hp⟩
  | k + 1 => by
    obtain ⟨h1, h2⟩ := growK_once n z k
    simp only [growK]
    by_cases h : linkCode n (EK (growK n z k)) (z k).1 (z k).2 = 0
    · rw [if_pos h]
      have hv : inV n (z k).1 = true ∧ inV n (z k).2 = true := by
        apply Classical.byContradiction; intro e; unfold linkCode at h; rw [if_neg e] at h; cases h
      have hab : (z k).1 ≠ (z k).2 := by
        intro e; unfold linkCode at h; rw [if_pos hv, if_pos e] at h; cases h
      have hn : ¬ Conn (EK (growK n z k)) (z k).1.toNat (z k).2.toNat := by
        intro e; unfold linkCode at h; rw [if_pos hv, if_neg hab, if_pos e] at h; cases h
      obtain ⟨x, hx, hxn⟩ := inV_nat hv.1
      obtain ⟨y, hy, hyn⟩ := inV_nat hv.2
      rw [hx, hy] at hn hab ⊢
      simp only [Int.toNat_natCast] at hn ⊢
      have hxy : x ≠ y := by omega
      refine ⟨List.pairwise_append.2 ⟨h1, List.pairwise_singleton _ _, fun p hp q hq => ?_⟩, fun p hp => ?_⟩
      · simp at hq; subst hq
        have hE : EK (growK n z k) p.1 p.2 := .inl hp
        constructor
        · rintro rfl
          exact hn ⟨[x, y], [y], rfl, ⟨hE, trivial⟩, by simp [hxy], rfl⟩
        · intro e
          have e1 : p.1 = y := by rw [e]; rfl
          have e2 : p.2 = x := by rw [e]; rfl
          rw [e1, e2] at hE
          exact hn ⟨[x, y], [y], rfl, ⟨hE.symm, trivial⟩, by simp [hxy], rfl⟩
      · rcases List.mem_append.1 hp with hp | hp
        · exact h2 p hp
        · simp at hp; subst hp; exact ⟨hxn, hyn, hxy⟩
    · rw [if_neg h]; exact ⟨h1, h2⟩

/-- In a forest an edge joins what the other edges leave apart. -/
theorem apart {K L : List (Nat × Nat)} (h : Frs (EK K)) (hs : ∀ v u, EK L v u → EK K v u) {p : Nat × Nat} (hp : EK K p.1 p.2) (hn : ¬ EK L p.1 p.2) : ¬ Conn (EK L) p.1 p.2 := by
  rintro ⟨q, hq⟩
  have h1 := hq.mono hs
  have h2 := h.unique h1 (h.edge hp)
  subst h2
  obtain ⟨l, e, hw, _⟩ := hq
  simp at e; subst e
  exact hn hw.1

theorem growK_again {n : Nat} {K : List (Nat × Nat)} (h : Frs (EK K)) (ho : Once K) (hv : ∀ p ∈ K, p.1 < n ∧ p.2 < n ∧ p.1 ≠ p.2) {z : Nat → Int × Int} (hz : ∀ i (hi : i < K.length), z i = ((K[i].1 : Int), (K[i].2 : Int))) :
    ∀ k, k ≤ K.length → growK n z k = K.take k
  | 0, _ => by simp [growK]
  | k + 1, hk => by
    have ih := growK_again h ho hv hz k (by omega)
    have hlt : k < K.length := by omega
    simp only [growK]
    rw [ih, hz k hlt]
    have hm := hv _ (List.getElem_mem hlt)
    have hmem : K[k] ∈ K := List.getElem_mem hlt
    have hcode : linkCode n (EK (K.take k)) (K[k].1 : Int) (K[k].2 : Int) = 0 := by
      refine linkCode_new hm.1 hm.2.1 hm.2.2 (apart (K := K) h (fun v u e => e.imp (fun x => List.mem_of_mem_take x) (fun x => List.mem_of_mem_take x)) (.inl hmem) ?_)
      have hpw := List.pairwise_iff_getElem.1 ho
      rintro (e | e)
      · obtain ⟨j, hj, he⟩ := List.mem_take_iff_getElem.1 e
        exact (hpw j k (by omega) hlt (by omega)).1 he
      · obtain ⟨j, hj, he⟩ := List.mem_take_iff_getElem.1 e
        exact (hpw j k (by omega) hlt (by omega)).2 he
    rw [if_pos hcode, List.take_add_one, List.getElem?_eq_getElem hlt, Option.toList_some, Int.toNat_natCast, Int.toNat_natCast]

theorem once_back {K : List (Nat × Nat)} (h : Once K) : Once (K.reverse.map swp) := by
  unfold Once
  rw [List.pairwise_map, List.pairwise_reverse]
  refine h.imp (fun {p q} hpq => ⟨fun e => hpq.1 ?_, fun e => hpq.2 ?_⟩)
  · simp only [swp, Prod.mk.injEq] at e
    exact Prod.ext e.2.symm e.1.symm
  · simp only [swp, Prod.mk.injEq] at e
    exact Prod.ext e.1.symm e.2.symm

/-- A row of pairs, as a slice of pairs. -/
theorem pairs_of_row {w : World} {v : Value} {K : List (Nat × Nat)} (h : w.ownsRow 0 30 2 v K.length (pairCells K)) (hl : K.length ≤ 120) : ∃ a cap, v = .slice a K.length cap ∧ PairsF w a K.length (fun i => (((K.getD i (0, 0)).1 : Int), ((K.getD i (0, 0)).2 : Int))) := by
  obtain ⟨h1, h2⟩ := h
  rcases h2 with ⟨rfl, h0⟩ | ⟨g, cap, cur, rfl, _, hh, hn, hm, hsz, hxs⟩
  · exact ⟨none, 0, by rw [h0], by rw [h0]; exact ⟨by omega, fun i hi => by omega⟩⟩
  · refine ⟨_, _, rfl, by omega, fun i hi => ⟨g, 0, rfl, (Array.getElem?_eq_some_iff.1 hh).1, ?_, ?_⟩⟩
    all_goals
      have key : ∀ j, j < 2 → cur[i * 2 + j]? = (pairCells K)[i * 2 + j]? := by
        intro j hj
        rw [← hxs, List.getElem?_take, if_pos (by omega)]
        simp
      have cells : ∀ (K : List (Nat × Nat)) (i : Nat), i < K.length → (pairCells K)[i * 2]? = some (.int .i64 ((K.getD i (0, 0)).1 : Int)) ∧ (pairCells K)[i * 2 + 1]? = some (.int .i64 ((K.getD i (0, 0)).2 : Int)) := by
        intro K
        induction K with
        | nil => intro i hi; simp at hi
        | cons p K ih =>
          intro i hi
          cases i with
          | zero => simp [pairCells]
          | succ i =>
            have := ih i (by simpa using hi)
            simp only [pairCells, List.flatMap_cons] at this ⊢
            rw [show (i + 1) * 2 = i * 2 + 2 by omega, show i * 2 + 2 + 1 = (i * 2 + 1) + 2 by omega]
            simpa using this
      simp only [World.cell?, hh, Nat.zero_add]
      simp
    · have := key 0 (by omega); simp at this; rw [this]; exact (cells K i hi).1
    · rw [key 1 (by omega)]; exact (cells K i hi).2

theorem pairInts_len (K : List (Nat × Nat)) : (pairCells K).length = K.length * 2 := pairCells_len K

theorem walk_lctOrder (W : World) (n : Int) (_wn : (Lit.int .i64 n).wf = true) (a : Option Addr) (len cap : Nat) (z : Nat → Int × Int) (hz : PairsF W a len z) (x : Int) (_wx : (Lit.int .i64 x).wf = true) (y : Int) (_wy : (Lit.int .i64 y).wf = true) :
    Calls Try.prog 6 #[.int .i64 n, .slice a len cap, .int .i64 x, .int .i64 y] W fun e w' => e = .returned (.bool true) ∧ Below W.heap.size W w' := by
  have hS := small_w W n a len cap hz.1
  have HZ := Lib.hid hz; clear hz
  cases hsm : smallB n len with
  | false =>
    rw [hsm] at hS
    have HS := Lib.hid hS; clear hS hsm
    go_enter Try.func6, Try.ntmps6
    go_wp2_with fail
    refine HS.out.mono ?_
    rintro _ w ⟨rfl, rfl⟩
    go_wp2_with fail
    refine (works_w w).mono ?_
    rintro _ w2 ⟨rfl, hB⟩
    go_wp2
    go_ret
    exact ⟨rfl, hB⟩
  | true =>
    rw [hsm] at hS
    have HS := Lib.hid hS; clear hS
    have hn : 0 ≤ n ∧ n ≤ 120 ∧ len ≤ 120 := by simp [smallB] at hsm; omega
    clear hsm
    obtain ⟨n, rfl⟩ : ∃ m : Nat, n = m := ⟨n.toNat, by omega⟩
    obtain ⟨_, hn1, hn2⟩ := hn
    have hn3 : n ≤ 120 := by omega
    go_enter Try.func6, Try.ntmps6
    go_wp2_with fail
    refine HS.out.mono ?_
    rintro _ w ⟨rfl, rfl⟩
    go_wp2_with fail
    refine (grown_w w n hn3 a len cap hn2 z HZ.out).mono ?_
    rintro _ w1 ⟨pf, g, v, rfl, hO, hown, hq⟩
    have hKl : (growK n z len).length ≤ 120 := Nat.le_trans (growK_len n z len) hn2
    have HG := Lib.hid (growK_once n z len)
    generalize growK n z len = K at *
    obtain ⟨a1, c1, rfl⟩ := ownsRow_slice hown
    have Hfs := Lib.hid (LG.frs hO.lm)
    have HO := Lib.hid hO; clear hO
    have HQ := Lib.hid hq; clear hq
    have hone : ∀ p ∈ K, True := fun _ _ => trivial
    clear hone
    obtain ⟨i0, hi, hz0, hz1, hz2⟩ := info_parts Try.info30
    go_wp2
    go_loopw [11, 12] (fun o i wr => ∃ j : Nat, j ≤ K.length ∧ i = .int .i64 ((j : Int) - 1) ∧ Hid (Own1 w wr pf g n (EK K) (fun _ => 0)) ∧ wr.ownsRow 0 30 2 (.slice a1 K.length c1) K.length (pairCells K) ∧
      wr.ownsRow 0 30 2 o (K.length - j) (pairCells ((K.reverse.map swp).take (K.length - j))) ∧ Hid (∀ q, o.ownBlock = some q → w.heap.size ≤ q ∧ q ≠ pf ∧ q ≠ g ∧ (Value.slice a1 K.length c1).ownBlock ≠ some q)) (fun _ i _ => (intOf i + 1).toNat)
    case atStart => exact ⟨K.length, Nat.le_refl _, by go_num, HO, hown, by rw [Nat.sub_self]; exact World.ownsRow_nil _ _ _ _, Lib.hid (fun q e => by cases e)⟩
    case round =>
      clear HO hown
      obtain ⟨j, hj, rfl, HO, hown, hrow, HQo⟩ := hrel
      obtain ⟨a2, c2, rfl⟩ := ownsRow_slice hrow
      cases j with
      | zero =>
        rw [show ((0 : Nat) : Int) - 1 = -1 by rfl]
        rw [Nat.sub_zero, List.take_of_length_le (by simp)] at hrow
        have hbl : (K.reverse.map swp).length = K.length := by simp
        obtain ⟨a2', c2', e2, hPF⟩ := pairs_of_row (K := K.reverse.map swp) (by rw [hbl]; exact hrow) (by omega)
        rw [hbl] at e2 hPF
        simp only [Value.slice.injEq, true_and] at e2
        obtain ⟨rfl, rfl⟩ := e2
        have hEb := EK_back K
        have hga := growK_again (n := n) (K := K.reverse.map swp) (by rw [hEb]; exact Hfs.out) (once_back HG.out.1) (fun p hp => by
          obtain ⟨q, hq, rfl⟩ := List.mem_map.1 hp
          have := HG.out.2 q (by simpa using hq)
          exact ⟨this.2.1, this.1, fun e => this.2.2 e.symm⟩) (z := fun i => (((((K.reverse.map swp).getD i (0, 0)).1 : Nat) : Int), ((((K.reverse.map swp).getD i (0, 0)).2 : Nat) : Int))) (fun i hi => by
            rw [List.getD_eq_getElem?_getD, List.getElem?_eq_getElem hi]; rfl) K.length (by omega)
        rw [List.take_of_length_le (by omega)] at hga
        have hgr := grown_w wr n hn3 a2 K.length c2 hKl _ hPF
        rw [hga, hEb, hbl] at hgr
        have HGr := Lib.hid hgr
        clear hgr hga hPF hEb hbl hrow hown HQo HQ
        go_wp2_with fail
        refine HGr.out.mono ?_
        rintro _ w5 ⟨pf2, g2, v2, rfl, hO2, hown2, _⟩
        obtain ⟨a3, c3, rfl⟩ := ownsRow_slice hown2
        clear hown2 HGr
        have hO1 : Own1 w w5 pf g n (EK K) (fun _ => 0) := ⟨LG.fr HO.out.lm hO2.fr (by simp) (by simp), HO.out.fr.trans hO2.fr (by simp), HO.out.pf, HO.out.g⟩
        obtain ⟨hp1, hg1, _⟩ := LG.lts HO.out.lm
        have hd : pf2 ≠ pf ∧ pf2 ≠ g ∧ g2 ≠ pf ∧ g2 ≠ g := by have h1 := hO2.pf; have h2 := hO2.g; omega
        have hw5 : w.heap.size ≤ pf2 ∧ w.heap.size ≤ g2 := by have h1 := hO2.pf; have h2 := hO2.g; have h3 := HO.out.fr.size; omega
        have HO1 := Lib.hid hO1; clear hO1
        have HL2 := Lib.hid hO2.lm; clear hO2 HO
        have hll : ∀ a b, (pathL n (EK K) a b).length ≤ 65536 := by
          intro a b
          by_cases hc : ConnI n (EK K) a b
          · unfold pathL; rw [if_pos hc]
            obtain ⟨va, vb, hc'⟩ := hc
            have hpth := thePath_is hc'
            refine Nat.le_trans (nodup_le (N := n) hpth.nd (fun z hz => ?_)) (by omega)
            obtain ⟨l, e, hw', _⟩ := hpth
            rw [e] at hz
            obtain ⟨x', hx', hxn⟩ := inV_nat va
            rcases List.mem_cons.1 hz with rfl | hz
            · rw [hx', Int.toNat_natCast]; exact hxn
            · have key : ∀ {l : List Nat} {a : Nat}, Wk (EK K) a l → ∀ z ∈ l, z < n := by
                intro l
                induction l with
                | nil => intro a _ z hz; cases hz
                | cons y l ih =>
                  intro a ⟨h1, h2⟩ z hz
                  rcases List.mem_cons.1 hz with rfl | hz
                  · exact (LG.edge_lt HO1.out.lm h1).2
                  · exact ih h2 z hz
              exact key hw' z hz
          · unfold pathL; rw [if_neg hc]; simp
        have Hll := Lib.hid hll; clear hll
        have hne : ((K.length : Int) != (K.length : Int)) = false := by simp
        go_wp2_with fail
        refine (pathf_w HO1.out.lm x y).mono ?_
        rintro _ w6 ⟨v6, rfl, r6, o6, h6, f6⟩
        have HO6 := Lib.hid (HO1.out.ask h6 f6)
        have HL6 := Lib.hid (LG.fr HL2.out f6 (by simp; omega) (by simp; omega))
        have R6 := Lib.hid (show RowN w6 v6 _ from r6)
        obtain ⟨a6, c6, rfl⟩ := ownsRow_slice r6
        clear r6 h6
        go_wp2_with fail
        refine (pathf_w HL6.out x y).mono ?_
        rintro _ w7 ⟨v7, rfl, r7, o7, h7, f7⟩
        have hlt6 := LG.lts HL6.out
        have R67 := Lib.hid (R6.out.fr f7 (fun q hq => by
          have h1 := o6 q hq
          have h2 := LG.lts HL2.out
          simp; omega))
        have HO7 := Lib.hid (Own1.mk (LG.fr HO6.out.lm f7 (by simp; omega) (by simp; omega)) (HO6.out.fr.trans f7 (fun q hq => .inr (by simp at hq; omega))) HO6.out.pf HO6.out.g)
        have HL7 := Lib.hid h7
        have R7 := Lib.hid (show RowN w7 v7 _ from r7)
        obtain ⟨a7, c7, rfl⟩ := ownsRow_slice r7
        clear r7 h7
        have hsm := same_w R67.out R7.out (Hll.out x y) (Hll.out x y)
        rw [decide_eq_true rfl] at hsm
        have HSm := Lib.hid hsm; clear hsm
        go_wp2_with fail
        refine HSm.out.mono ?_
        rintro _ _ ⟨rfl, k8, rfl⟩
        go_wp2_with fail
        refine (size_d (HO7.out.drew k8).lm x).mono ?_
        rintro _ w9 ⟨rfl, h9, f9⟩
        have HO9 := Lib.hid ((HO7.out.drew k8).ask h9 f9)
        have HL9 := Lib.hid (LG.fr (LG.fr HL7.out ((Fr.refl [] w7).drewN k8) (by simp) (by simp)) f9 (by simp; omega) (by simp; omega))
        clear h9
        go_wp2_with fail
        refine (size_d HL9.out x).mono ?_
        rintro _ w10 ⟨rfl, h10, f10⟩
        have HO10 := Lib.hid (Own1.mk (LG.fr HO9.out.lm f10 (by simp; omega) (by simp; omega)) (HO9.out.fr.trans f10 (fun q hq => .inr (by simp at hq; omega))) HO9.out.pf HO9.out.g)
        have HL10 := Lib.hid h10; clear h10
        generalize sizeI n (EK K) x = sz at *
        go_wp2_with fail
        refine (trees_w HO10.out.lm).mono ?_
        rintro _ _ ⟨rfl, k11, rfl⟩
        go_wp2_with fail
        refine (trees_w (LG.fr HL10.out ((Fr.refl [] w10).drewN k11) (by simp) (by simp))).mono ?_
        rintro _ _ ⟨rfl, k12, rfl⟩
        have HO12 := Lib.hid (HO10.out.drew (k11 + k12))
        go_wp2_with fail
        refine (works_w _).mono ?_
        rintro _ w13 ⟨rfl, hB⟩
        go_wp2
        go_ret
        exact ⟨rfl, HO12.out.below.trans (hB.mono HO12.out.fr.size)⟩
      | succ j =>
        rw [show ((j + 1 : Nat) : Int) - 1 = (j : Int) by omega]
        obtain ⟨a1', c1', e1, hPF⟩ := pairs_of_row hown hKl
        simp only [Value.slice.injEq, true_and] at e1
        obtain ⟨rfl, rfl⟩ := e1
        obtain ⟨b, off, rfl, hb, q0, q1⟩ := hPF.2 j (by omega)
        dsimp only at q0 q1
        have hkl : (j : Int) < K.length := by omega
        have hk0 : (0 : Int) ≤ (j : Int) := by omega
        generalize hp : K.getD j (0, 0) = p at *
        have HP := Lib.hid hp; clear hp hPF
        go_wp2
        go_region_held3 (fun w' => w'.cell? ⟨b, off + j * 2, none⟩ = some (.int .i64 p.1) ∧ w'.cell? ⟨b, off + j * 2 + 1, none⟩ = some (.int .i64 p.2))
          (first
            | go_keep
            | (go_split_ands
               refine ⟨?_, ?_⟩
               · (rw [hgrow.cell_far _ (by simp; omega) (by simpa using fun e => (HQo.out b e.symm).2.2.2 rfl)]; assumption)
               · (rw [hgrow.cell_far _ (by simp; omega) (by simpa using fun e => (HQo.out b e.symm).2.2.2 rfl)]; assumption)))
          ((refine step_append_lies _ (by rfl) _ _ _ (by rfl) 0 30 i0 _ 2 16 Try.underlying22 hi hz0 hz1 hz2 rfl (by omega) (.slice a2 (K.length - (j + 1)) c2) (K.length - (j + 1)) _ (by rfl) ((hrow.alloc _).drew)
              ⟨wr.heap.size, 0, none⟩ 1 1 [.int .i64 p.2, .int .i64 p.1] (by rfl) (by rfl) (World.news_of_block (cs := #[.int .i64 p.2, .int .i64 p.1]) (t := 30) (fr := (0, 0)) (heap_alloc_new wr _)) (by simp [Value.oneCell'])
              (by omega) (by unfold maxLen; omega) (by omega) (by simp) (wr.heap.size + 1) (by simp) ?_; intro g' cap' w4 hown4 hgrow hat hlt4))
        go_wp2
        go_roundw
        case rel =>
          have hsz4 := hgrow.size
          simp only [World.size_alloc, World.size_drew] at hsz4
          have hF4 : Fr (Value.slice a2 (K.length - (j + 1)) c2).ownBlock.toList wr w4 := ⟨hgrow.os, hgrow.tape, hgrow.output, by omega, fun q hq hn => by
            rw [hgrow.block q (by simp; omega) (fun e => hn (by simp [← e]))]; exact Below.heap_alloc wr _ _ hq⟩
          have hKb : (K.reverse.map swp).take (K.length - j) = (K.reverse.map swp).take (K.length - (j + 1)) ++ [(p.2, p.1)] := by
            rw [show K.length - j = (K.length - (j + 1)) + 1 by omega, List.take_add_one]
            congr 1
            rw [List.getElem?_map, List.getElem?_reverse (by omega), show K.length - 1 - (K.length - (j + 1)) = j by omega, List.getElem?_eq_getElem (by omega)]
            have := HP.out
            rw [List.getD_eq_getElem?_getD, List.getElem?_eq_getElem (by omega)] at this
            simp at this
            rw [this]; rfl
          refine ⟨j, by omega, by go_num, Lib.hid ⟨LG.fr HO.out.lm hF4 (fun hm => (HQo.out pf (by simpa using hm)).2.1 rfl) (fun hm => (HQo.out g (by simpa using hm)).2.2.1 rfl), HO.out.fr.trans hF4 (fun q hq => .inr (HQo.out q (by simpa using hq)).1), HO.out.pf, HO.out.g⟩, ?_, ?_, Lib.hid (fun q e => ?_)⟩
          · exact ownsRow_same hown (fun q hq => hF4.keep q (hown.lt q hq).2 (fun hm => (HQo.out q (by simpa using hm)).2.2.2 hq))
          · rw [hKb, pairCells_snoc]
            have e2 : K.length - j = K.length - (j + 1) + 1 := by omega
            rw [e2]; exact hown4
          · simp only [Value.ownBlock, Option.some.injEq] at e
            subst e
            rcases hat with h | h
            · exact HQo.out _ h
            · obtain ⟨h1, h2, _⟩ := LG.lts HO.out.lm
              have h3 := HO.out.fr.size
              have h4 := hown.lt b rfl
              refine ⟨by omega, by omega, by omega, ?_⟩
              simp only [Value.ownBlock, ne_eq, Option.some.injEq]; omega
        case measure => simp [intOf]

end Go.Proofs.Ytoppjjgecgbbkaa

/- LctPaths: the plain law, and the walk. -/
namespace Go.Proofs.Ytoppjjgecgbbkaa
open Go.RowKit Classical
set_option maxRecDepth 10000
set_option maxHeartbeats 800000

section
variable {n : Nat} {E : Nat → Nat → Prop}
theorem pathL_is {a b : Int} (h : ConnI n E a b) : IsPath E a.toNat b.toNat (pathL n E a b) := by unfold pathL; rw [if_pos h]; exact thePath_is h.2.2
theorem pathL_nil {a b : Int} (h : ¬ ConnI n E a b) : pathL n E a b = [] := by unfold pathL; rw [if_neg h]
theorem connI_symm (h : Frs E) {a b : Int} (hc : ConnI n E a b) : ConnI n E b a := ⟨hc.2.1, hc.1, h.csymm hc.2.2⟩
theorem pathL_rev (h : Frs E) (a b : Int) : pathL n E b a = (pathL n E a b).reverse := by
  by_cases hc : ConnI n E a b
  · exact h.unique (pathL_is (connI_symm h hc)) ((pathL_is hc).rev (fun _ _ e => h.symm e))
  · rw [pathL_nil hc, pathL_nil (fun e => hc (connI_symm h e))]; rfl
theorem pathL_pos {a b : Int} : decide (0 < (pathL n E a b).length) = connB n E a b := by
  by_cases hc : ConnI n E a b
  · have h1 := List.length_pos_iff.2 (pathL_is hc).ne
    rw [connB_iff.2 hc]; exact decide_eq_true h1
  · rw [pathL_nil hc]
    cases e : connB n E a b with
    | false => rfl
    | true => exact absurd (connB_iff.1 e) hc
theorem pathL_dist (a b : Int) : distI n E a b = ((pathL n E a b).length : Int) - 1 := by
  by_cases hc : ConnI n E a b
  · unfold distI pathL; rw [if_pos hc, if_pos hc]
  · unfold distI; rw [if_neg hc, pathL_nil hc]; rfl
theorem pathL_lt (hlt : ∀ v u, E v u → v < n ∧ u < n) {a b : Int} : ∀ x ∈ pathL n E a b, x < n := by
  intro x hx
  by_cases hc : ConnI n E a b
  · obtain ⟨l, e, hw, _⟩ := pathL_is hc
    rw [e] at hx
    obtain ⟨z, hz, hzn⟩ := inV_nat hc.1
    rcases List.mem_cons.1 hx with rfl | hx
    · rw [hz, Int.toNat_natCast]; exact hzn
    · exact wk_lt hlt hw x hx
  · rw [pathL_nil hc] at hx; cases hx
theorem pathL_nd (a b : Int) : (pathL n E a b).Nodup := by
  by_cases hc : ConnI n E a b
  · exact (pathL_is hc).nd
  · rw [pathL_nil hc]; exact List.nodup_nil
theorem wk_get : ∀ {a : Nat} {l : List Nat}, Wk E a l → ∀ i (hi : i + 1 < (a :: l).length), E ((a :: l)[i]'(by omega)) ((a :: l)[i + 1]'hi)
  | a, [], _, i, hi => by simp at hi
  | a, y :: l, ⟨h1, h2⟩, i, hi => by
    cases i with
    | zero => exact h1
    | succ i => exact wk_get h2 i (by simpa using hi)
theorem pathL_step (a b : Int) (i : Nat) (hi : i + 1 < (pathL n E a b).length) : E ((pathL n E a b)[i]'(by omega)) ((pathL n E a b)[i + 1]'hi) := by
  by_cases hc : ConnI n E a b
  · obtain ⟨l, e, hw, _⟩ := pathL_is hc
    have := wk_get hw i (by rw [← e]; exact hi)
    simp only [← e] at this
    exact this
  · rw [pathL_nil hc] at hi; simp at hi
theorem path_ends {x y : Nat} {p : List Nat} (hp : IsPath E x y p) (h : 0 < p.length) : p[0]'h = x ∧ p[p.length - 1]'(by omega) = y := by
  obtain ⟨l, e⟩ := hp.first
  have hl := hp.last
  rw [List.getLast?_eq_getElem?, List.getElem?_eq_getElem (by omega)] at hl
  refine ⟨?_, Option.some.inj hl⟩
  subst e; simp
theorem pathL_ends {a b : Int} (h : 0 < (pathL n E a b).length) : ((pathL n E a b)[0]'h : Int) = a ∧ ((pathL n E a b)[(pathL n E a b).length - 1]'(by omega) : Int) = b := by
  have hc : ConnI n E a b := by
    apply Classical.byContradiction; intro hc; rw [pathL_nil hc] at h; simp at h
  have hp := path_ends (pathL_is hc) h
  obtain ⟨x, hx, _⟩ := inV_nat hc.1
  obtain ⟨y, hy, _⟩ := inV_nat hc.2.1
  rw [hp.1, hp.2]; omega
end

theorem Try.infoi3 : ∃ i, Try.prog.info? 3 = some i := Option.isSome_iff_exists.1 (by kernel_rfl)
def pairEq (a b c d : Int) : Bool := a == c && b == d
@[go_sem] theorem eqIn_pair (a b c d : Int) (w : World) : (Op.equalIn 10000 30 (.agg #[.int .i64 a, .int .i64 b]) (.agg #[.int .i64 c, .int .i64 d])).run Try.prog w = .ok (pairEq a b c d) w := by
  obtain ⟨i, hi⟩ := Try.infoi3
  have u3 := Try.underlying3
  have a3 := Try.isAgg3
  have z3 := Try.sizeOf3
  have hc : Try.prog.cellsOf 3 = 1 := by kernel_rfl
  rw [show (10000 : Nat) = 9999 + 1 from rfl, run_equalIn_array w 9999 _ _ Try.underlying30 hi, hc]
  have r2 : List.range 2 = [0, 1] := rfl
  rw [r2]
  simp only [Op.eqItems]
  go_simp
  unfold pairEq
  by_cases h1 : a = c <;> by_cases h2 : b = d <;> simp [h1, h2]

@[go_sem] theorem guard_pair (x y : Operand) (xs ys : Array Value) (w : World) : (eqGuard .eql 30 x y (.agg xs) (.agg ys)).run Try.prog w = .ok () w := run_eqGuard_agg w .eql 30 x y xs ys (by kernel_rfl)

/-- Whether one of the first k edges joins x and y. -/
noncomputable def foundB (K : List (Nat × Nat)) (x y k : Nat) : Bool := decide (∃ j, ∃ h : j < K.length, j < k ∧ (K[j] = (x, y) ∨ K[j] = (y, x)))
theorem found_zero (K : List (Nat × Nat)) (x y : Nat) : foundB K x y 0 = false := decide_eq_false (by rintro ⟨j, _, h, _⟩; omega)
theorem found_succ {K : List (Nat × Nat)} {x y k : Nat} (hk : k < K.length) : foundB K x y (k + 1) = (foundB K x y k || (pairEq K[k].1 K[k].2 x y || pairEq K[k].1 K[k].2 y x)) := by
  rw [Bool.eq_iff_iff]
  simp only [foundB, pairEq, decide_eq_true_eq, Bool.or_eq_true, Bool.and_eq_true, beq_iff_eq, Int.natCast_inj]
  constructor
  · rintro ⟨j, hj, hlt, h⟩
    by_cases e : j = k
    · subst e
      right
      rcases h with h | h
      · rw [h]; exact .inl ⟨rfl, rfl⟩
      · rw [h]; exact .inr ⟨rfl, rfl⟩
    · exact .inl ⟨j, hj, by omega, h⟩
  · rintro (⟨j, hj, hlt, h⟩ | h | h)
    · exact ⟨j, hj, by omega, h⟩
    · exact ⟨k, hk, by omega, .inl (Prod.ext h.1 h.2)⟩
    · exact ⟨k, hk, by omega, .inr (Prod.ext h.1 h.2)⟩
theorem found_all {K : List (Nat × Nat)} {x y : Nat} (h : EK K x y) : foundB K x y K.length = true := by
  refine decide_eq_true ?_
  rcases h with h | h
  · obtain ⟨j, hj, e⟩ := List.mem_iff_getElem.1 h
    exact ⟨j, hj, hj, .inl e⟩
  · obtain ⟨j, hj, e⟩ := List.mem_iff_getElem.1 h
    exact ⟨j, hj, hj, .inr e⟩

theorem walk_lctPaths (W : World) (n : Int) (_wn : (Lit.int .i64 n).wf = true) (a : Option Addr) (len cap : Nat) (z : Nat → Int × Int) (hz : PairsF W a len z) (x : Int) (_wx : (Lit.int .i64 x).wf = true) (y : Int) (_wy : (Lit.int .i64 y).wf = true) :
    Calls Try.prog 5 #[.int .i64 n, .slice a len cap, .int .i64 x, .int .i64 y] W fun e w' => e = .returned (.bool true) ∧ Below W.heap.size W w' := by
  have hS := small_w W n a len cap hz.1
  have HZ := Lib.hid hz; clear hz
  cases hsm : smallB n len with
  | false =>
    rw [hsm] at hS
    have HS := Lib.hid hS; clear hS hsm
    go_enter Try.func5, Try.ntmps5
    go_wp2_with fail
    refine HS.out.mono ?_
    rintro _ w ⟨rfl, rfl⟩
    go_wp2_with fail
    refine (works_w w).mono ?_
    rintro _ w2 ⟨rfl, hB⟩
    go_wp2
    go_ret
    exact ⟨rfl, hB⟩
  | true =>
    rw [hsm] at hS
    have HS := Lib.hid hS; clear hS
    have hn : 0 ≤ n ∧ n ≤ 120 ∧ len ≤ 120 := by simp [smallB] at hsm; omega
    clear hsm
    obtain ⟨n, rfl⟩ : ∃ m : Nat, n = m := ⟨n.toNat, by omega⟩
    obtain ⟨_, hn1, hn2⟩ := hn
    have hn3 : n ≤ 120 := by omega
    go_enter Try.func5, Try.ntmps5
    go_wp2_with fail
    refine HS.out.mono ?_
    rintro _ w ⟨rfl, rfl⟩
    go_wp2_with fail
    refine (grown_w w n hn3 a len cap hn2 z HZ.out).mono ?_
    rintro _ w1 ⟨pf, g, v, rfl, hO, hown, hq⟩
    have hKl : (growK n z len).length ≤ 120 := Nat.le_trans (growK_len n z len) hn2
    generalize growK n z len = K at *
    obtain ⟨a1, c1, rfl⟩ := ownsRow_slice hown
    have Hfs := Lib.hid (LG.frs hO.lm)
    have Hlt := Lib.hid (fun v u => LG.edge_lt hO.lm (v := v) (u := u))
    have HO := Lib.hid hO; clear hO
    have HQ := Lib.hid hq; clear hq
    have HK := Lib.hid hown; clear hown
    obtain ⟨p, hp⟩ : ∃ p, pathL n (EK K) x y = p := ⟨_, rfl⟩
    have Hpl : Hid (∀ u ∈ p, u < n) := by rw [← hp]; exact pathL_lt Hlt.out
    have Hnd : Hid p.Nodup := by rw [← hp]; exact pathL_nd x y
    have Hst : Hid (∀ i (hi : i + 1 < p.length), EK K (p[i]'(by omega)) (p[i + 1]'hi)) := by subst hp; exact pathL_step x y
    have Hen : Hid (∀ h : 0 < p.length, ((p[0]'h : Nat) : Int) = x ∧ ((p[p.length - 1]'(by omega) : Nat) : Int) = y) := by subst hp; exact fun h => pathL_ends h
    have hll : p.length ≤ 120 := Nat.le_trans (nodup_le Hnd.out Hpl.out) hn3
    have PF1 := fun (w' : World) (h : LG w' pf g n (EK K) (fun _ => 0) ((n : Int) - nc n (EK K))) => pathf_w h x y
    have PF2 := fun (w' : World) (h : LG w' pf g n (EK K) (fun _ => 0) ((n : Int) - nc n (EK K))) => pathf_w h y x
    have hD3 := fun (w' : World) (h : LG w' pf g n (EK K) (fun _ => 0) ((n : Int) - nc n (EK K))) => dist_d h x y
    have hC3 := fun (w' : World) (h : LG w' pf g n (EK K) (fun _ => 0) ((n : Int) - nc n (EK K))) => connected_d h x y
    rw [pathL_rev Hfs.out x y, hp] at PF2
    rw [hp] at PF1
    rw [pathL_dist, hp] at hD3
    rw [← pathL_pos, hp] at hC3
    have HPF1 := Lib.hid PF1; clear PF1
    have HPF2 := Lib.hid PF2; clear PF2
    have HD3 := Lib.hid hD3; clear hD3
    have HC3 := Lib.hid hC3; clear hC3 hp
    go_wp2_with fail
    refine (HPF1.out _ HO.out.lm).mono ?_
    rintro _ w2 ⟨v2, rfl, r2, o2, h2, f2⟩
    have HO2 := Lib.hid (HO.out.ask h2 f2)
    have HK2 := Lib.hid (ownsRow_same HK.out (fun q hq => f2.keep q (HK.out.lt q hq).2 (by have := HQ.out q hq; simp; omega)))
    have R2 := Lib.hid (show RowN w2 v2 p from r2)
    obtain ⟨a2, c2, rfl⟩ := ownsRow_slice r2
    clear r2 h2
    go_wp2_with fail
    refine (HPF2.out _ HO2.out.lm).mono ?_
    rintro _ w3 ⟨v3, rfl, r3, o3, h3, f3⟩
    have HO3 := Lib.hid (HO2.out.ask h3 f3)
    have hlts := LG.lts HO.out.lm
    have HK3 := Lib.hid (ownsRow_same HK2.out (fun q hq => f3.keep q (HK2.out.lt q hq).2 (by have := HQ.out q hq; simp; omega)))
    have R23 := Lib.hid (R2.out.fr f3 (fun q hq => by have := o2 q hq; simp; omega))
    have R3 := Lib.hid (show RowN w3 v3 p.reverse from r3)
    obtain ⟨a3, c3, rfl⟩ := ownsRow_slice r3
    rw [List.length_reverse] at R3
    rw [List.length_reverse]
    clear r3 h3 HK HK2 R2
    obtain ⟨dp, hdp⟩ : ∃ dp, decide (0 < p.length) = dp := ⟨_, rfl⟩
    have C3 := HC3.out _ HO3.out.lm
    rw [hdp] at C3
    have HC := Lib.hid C3; clear C3 HC3
    have hneb : (dp != dp) = false := by cases dp <;> rfl
    have hnel : ((p.length : Int) != (p.length : Int)) = false := by simp
    go_wp2_with fail
    refine HC.out.mono ?_
    rintro _ w4 ⟨rfl, h4, f4⟩
    have HO4 := Lib.hid (HO3.out.ask h4 f4)
    go_wp2_with fail
    refine (HD3.out _ HO4.out.lm).mono ?_
    rintro _ w5 ⟨rfl, h5, f5⟩
    have HO5 := Lib.hid (HO4.out.ask h5 f5)
    have hS : ∀ q, (w.heap.size ≤ q ∧ q ≠ pf ∧ q ≠ g) ∨ w1.heap.size ≤ q ∨ w2.heap.size ≤ q → q ∉ [g] := by
      have e1 := f2.size
      rintro q (h | h | h) <;> simp <;> omega
    have HK5 := Lib.hid (ownsRow_same HK3.out (fun q hq => (f4.then f5).keep q (HK3.out.lt q hq).2 (hS q (.inl (HQ.out q hq)))))
    have R25 := Lib.hid (R23.out.fr (f4.then f5) (fun q hq => hS q (.inr (.inl (o2 q hq)))))
    have R35 := Lib.hid (show RowN w5 (.slice a3 p.length c3) p.reverse from R3.out.fr (f4.then f5) (fun q hq => hS q (.inr (.inr (o3 q (by simpa using hq))))))
    clear h4 h5 HK3 R23 R3 hS HO HO2 HO3 HO4 HC
    have Hdp := Lib.hid hdp; clear hdp
    go_wp2
    go_loopw [13] (fun i wr => ∃ j : Nat, j ≤ p.length ∧ i = .int .i64 j ∧ ∃ k, wr = w5.drewN k) (fun i _ => p.length - (intOf i).toNat)
    case atStart => exact ⟨0, Nat.zero_le _, rfl, 0, rfl⟩
    case round =>
      obtain ⟨i, hi, rfl, k, rfl⟩ := hrel
      by_cases hlt : i < p.length
      · obtain ⟨b2, c2', e2, _, q2⟩ := R25.out.at hlt
        obtain ⟨b3, c3', e3, _, q3⟩ := R35.out.at (show p.length - 1 - i < p.reverse.length by simp; omega)
        simp only [Value.slice.injEq, true_and] at e2
        simp only [List.length_reverse, Value.slice.injEq, true_and] at e3
        obtain ⟨rfl, rfl⟩ := e2
        obtain ⟨rfl, rfl⟩ := e3
        have hrv : p.reverse[p.length - 1 - i]'(by simp; omega) = p[i]'hlt := by
          rw [List.getElem_reverse]; congr 1; omega
        rw [hrv] at q3
        clear hrv
        have hxi := Hpl.out (p[i]'hlt) (List.getElem_mem hlt)
        obtain ⟨xi, hxe⟩ : ∃ xi, p[i]'hlt = xi := ⟨_, rfl⟩
        rw [hxe] at q2 q3 hxi
        have HXi := Lib.hid (show p[i]? = some xi by rw [List.getElem?_eq_getElem hlt, hxe])
        have HXe := Lib.hid hxe; clear hxe
        have hi1 : (i : Int) < p.length := by omega
        have hi0 : (0 : Int) ≤ i := by omega
        have hw1 : IntKind.i64.wrap ((p.length : Int) - 1) = (p.length : Int) - 1 := IntWalk.i64_in _ (by omega)
        have hw2 : IntKind.i64.wrap ((p.length : Int) - 1 - i) = ((p.length - 1 - i : Nat) : Int) := by
          rw [show ((p.length : Int) - 1 - i) = ((p.length - 1 - i : Nat) : Int) by omega]; exact IntWalk.i64_in _ (by omega)
        have hq1 : ((p.length - 1 - i : Nat) : Int) < p.length := by omega
        have hq0 : (0 : Int) ≤ ((p.length - 1 - i : Nat) : Int) := by omega
        have hd0 : decide ((xi : Int) < 0) = false := decide_eq_false (by omega)
        have hd1 : decide ((n : Int) ≤ (xi : Int)) = false := decide_eq_false (by omega)
        go_wp2
        go_quiet (fail)
        go_wp2
        clear q3 hw1 hw2 hq1 hq0 hd0 hd1
        go_loopw [14] (fun y wr => ∃ j : Nat, j ≤ i ∧ y = .int .i64 j ∧ ∃ k, wr = w5.drewN k) (fun y _ => i - (intOf y).toNat)
        case atStart => exact ⟨0, Nat.zero_le _, rfl, by first | exact ⟨_, rfl⟩ | exact drew_ex _ _ _⟩
        case round =>
          obtain ⟨j, hj, rfl, k2, rfl⟩ := hrel
          by_cases hji : j < i
          · obtain ⟨b4, c4', e4, _, q4⟩ := R25.out.at (show j < p.length by omega)
            simp only [Value.slice.injEq, Option.some.injEq, Addr.mk.injEq, and_true, true_and] at e4
            obtain ⟨rfl, rfl⟩ := e4
            have hne : p[j]'(by omega) ≠ xi := by
              rw [← HXe.out]
              exact fun e => (List.pairwise_iff_getElem.1 Hnd.out j i (by omega) hlt hji) e
            obtain ⟨xj, hxj⟩ : ∃ xj, p[j]'(by omega) = xj := ⟨_, rfl⟩
            rw [hxj] at q4 hne
            clear hxj
            have hj1 : (j : Int) < p.length := by omega
            have hj0 : (0 : Int) ≤ j := by omega
            have hb : ((xj : Int) == (xi : Int)) = false := beq_eq_false_iff_ne.2 (by omega)
            have Hne := Lib.hid hne; clear hne
            go_wp2
            go_quiet (fail)
            go_wp2
            go_roundw
            case rel => exact ⟨j + 1, by omega, by go_num, by first | exact ⟨_, rfl⟩ | exact drew_ex _ _ _⟩
            case measure => simp [intOf]; omega
          · obtain rfl : j = i := by omega
            cases j with
            | zero =>
              go_wp2
              go_roundw
              case rel => exact ⟨1, by omega, by go_num, k2, rfl⟩
              case measure => simp [intOf]; omega
            | succ i' =>
              have hb0 : (((i' : Int) + 1) == 0) = false := beq_eq_false_iff_ne.2 (by omega)
              obtain ⟨b4, c4', e4, _, q4⟩ := R25.out.at (show i' < p.length by omega)
              simp only [Value.slice.injEq, Option.some.injEq, Addr.mk.injEq, and_true, true_and] at e4
              obtain ⟨rfl, rfl⟩ := e4
              have hedge := Hst.out i' hlt
              obtain ⟨xp, hxp⟩ : ∃ xp, p[i']'(by omega) = xp := ⟨_, rfl⟩
              rw [hxp] at q4 hedge
              rw [HXe.out] at hedge
              have Hfa := Lib.hid (found_all hedge)
              clear hedge hxp
              go_wp2
              go_loopw [15, 16] (fun f y wr => ∃ j : Nat, j ≤ K.length ∧ y = .int .i64 j ∧ f = .bool (foundB K xp xi j) ∧ ∃ k, wr = w5.drewN k) (fun _ y _ => K.length - (intOf y).toNat)
              case atStart => exact ⟨0, Nat.zero_le _, rfl, by rw [found_zero], k2, rfl⟩
              case round =>
                obtain ⟨j, hj, rfl, rfl, k3, rfl⟩ := hrel
                by_cases hjK : j < K.length
                · obtain ⟨a1', c1', e1, hPF⟩ := pairs_of_row HK5.out hKl
                  simp only [Value.slice.injEq, true_and] at e1
                  obtain ⟨rfl, rfl⟩ := e1
                  obtain ⟨b5, off, rfl, _, q50, q51⟩ := hPF.2 j hjK
                  dsimp only at q50 q51
                  rw [List.getD_eq_getElem?_getD, List.getElem?_eq_getElem hjK, Option.getD_some] at q50 q51
                  have hfs := found_succ (x := xp) (y := xi) hjK
                  have Hfs := Lib.hid hfs; clear hfs hPF
                  generalize (K[j]'hjK).1 = y0 at *
                  generalize (K[j]'hjK).2 = y1 at *
                  have hj1 : (j : Int) < K.length := by omega
                  have hj0 : (0 : Int) ≤ j := by omega
                  have hi2 : (i' : Int) < p.length := by omega
                  have hi3 : (0 : Int) ≤ (i' : Int) := by omega
                  have hi4 : (i' : Int) + 1 < p.length := by omega
                  have hi5 : (0 : Int) ≤ (i' : Int) + 1 := by omega
                  have hw1 : IntKind.i64.wrap ((i' : Int) + 1 - 1) = (i' : Int) := by rw [show (i' : Int) + 1 - 1 = i' by omega]; exact IntWalk.i64_in _ (by omega)
                  have hw2 : IntKind.i64.wrap (i' : Int) = (i' : Int) := IntWalk.i64_in _ (by omega)
                  have ht1 : ((i' : Int) + 1).toNat = i' + 1 := by omega
                  generalize hfd : foundB K xp xi j = fd at *
                  clear hfd
                  cases fd with
                  | true =>
                    go_wp2
                    go_quiet (fail)
                    go_wp2
                    go_roundw
                    case rel => exact ⟨j + 1, by omega, by go_num, by rw [Hfs.out]; simp, by first | exact ⟨_, rfl⟩ | exact drew_ex _ _ _⟩
                    case measure => simp [intOf]; omega
                  | false =>
                    cases he1 : pairEq (y0 : Int) (y1 : Int) (xp : Int) (xi : Int) with
                    | true =>
                      have He1 := Lib.hid he1
                      go_wp2
                      go_quiet (fail)
                      go_wp2
                      go_roundw
                      case rel => exact ⟨j + 1, by omega, by go_num, by rw [Hfs.out, He1.out]; simp, by first | exact ⟨_, rfl⟩ | exact drew_ex _ _ _⟩
                      case measure => simp [intOf]; omega
                    | false =>
                      have He1 := Lib.hid he1
                      obtain ⟨e2, he2⟩ : ∃ e2, pairEq (y0 : Int) (y1 : Int) (xi : Int) (xp : Int) = e2 := ⟨_, rfl⟩
                      have He2 := Lib.hid he2
                      go_wp2
                      go_quiet (fail)
                      go_wp2
                      go_roundw
                      case rel => exact ⟨j + 1, by omega, by go_num, by rw [Hfs.out, He1.out, He2.out]; simp, by first | exact ⟨_, rfl⟩ | exact drew_ex _ _ _⟩
                      case measure => simp [intOf]; omega
                · obtain rfl : j = K.length := by omega
                  rw [Hfa.out]
                  go_wp2
                  go_roundw
                  case rel => exact ⟨i' + 1 + 1, by omega, by go_num, k3, rfl⟩
                  case measure => simp [intOf]; omega
      · obtain rfl : i = p.length := by omega
        by_cases hp0 : p.length = 0
        · have hb0 : ((p.length : Int) == 0) = true := beq_iff_eq.2 (by omega)
          go_wp2_with fail
          refine (works_w _).mono ?_
          rintro _ w6 ⟨rfl, hB⟩
          go_wp2
          go_ret
          have h5 := HO5.out.drew k
          exact ⟨rfl, h5.below.trans (hB.mono h5.fr.size)⟩
        · have hb0 : ((p.length : Int) == 0) = false := beq_eq_false_iff_ne.2 (by omega)
          obtain ⟨b2, c2', e2, _, q2⟩ := R25.out.at (show 0 < p.length by omega)
          simp only [Value.slice.injEq, true_and] at e2
          obtain ⟨rfl, rfl⟩ := e2
          obtain ⟨b2', c2'', e2, _, q3⟩ := R25.out.at (show p.length - 1 < p.length by omega)
          simp only [Value.slice.injEq, Option.some.injEq, Addr.mk.injEq, and_true, true_and] at e2
          obtain ⟨rfl, rfl⟩ := e2
          obtain ⟨m1, m2⟩ := Hen.out (by omega)
          rw [m1] at q2
          rw [m2] at q3
          clear m1 m2
          have hx1 : (x == x) = true := beq_self_eq_true x
          have hy1 : (y == y) = true := beq_self_eq_true y
          have hi2 : (0 : Int) < p.length := by omega
          have hi3 : (p.length : Int) - 1 = ((p.length - 1 : Nat) : Int) := by omega
          have hi4 : ((p.length - 1 : Nat) : Int) < p.length := by omega
          have Hp0 := Lib.hid hp0; clear hp0
          go_wp2_with fail
          refine (works_w _).mono ?_
          rintro _ w6 ⟨rfl, hB⟩
          go_wp2
          go_ret
          have h5 := HO5.out.drew k
          exact ⟨rfl, h5.below.trans (hB.mono h5.fr.size)⟩

end Go.Proofs.Ytoppjjgecgbbkaa

namespace Go.Proofs.Ytoppjjgecgbbkaa
open Go.RowKit

section
variable {P : Program} {ops : Array Oper} {C : World → Prop}
theorem region_class {id : Nat} {Q : Exit → Act → World → Prop} {a : Act} {w : World} {l : List Oper} (C : World → Prop) (hm : P.follows .mixedOrders = true) (hB : Region.lexB .any l.toArray = true) (hC : C w.drew)
    (h : wpQuiet P l.toArray C (fun a' => ∀ w', C w' → Q .normal a' w') l a) : (Code.region id l.toArray true).wp P Q a w :=
  wp_region_quiet hm hB hC (by simpa using h)
theorem cWalk_pure {Q : Act → Prop} {o : Oper} {rest : List Oper} {a : Act}
    (h : ∀ K : Act → Prop, (∀ a, wpQuiet P ops C Q rest a → K a) → if Region.wanted o (yielded ops a.tmps) then Oper.pure_ P o a K else K (a.put o.dst undef)) : wpQuiet P ops C Q (o :: rest) a := by
  have h := h _ (fun _ h => h)
  unfold wpQuiet
  by_cases hw : Region.wanted o (yielded ops a.tmps) = true
  · rw [if_pos hw] at *
    obtain ⟨v, h1, h2⟩ := h
    refine ⟨v, fun w _ => ?_, h2⟩
    have := h1 w
    unfold Oper.quietAt
    revert this
    generalize (execOp a.eval o).run P w = r
    intro this
    cases r with
    | halt x w' => exact this.elim
    | ok x w' =>
      cases x with
      | value u => exact ⟨this.1, this.2⟩
      | skip => exact ⟨this.1, this.2⟩
      | _ => exact this.elim
  · rw [if_neg hw] at *; exact h
theorem cWalk_val {Q : Act → Prop} {o : Oper} {rest : List Oper} {a : Act} (hg : o.guard = none) (v : Value)
    (h0 : ∀ w, C w → Oper.quietUpon P C w v ((execOp a.eval o).run P w)) (h : wpQuiet P ops C Q rest (a.put o.dst v)) : wpQuiet P ops C Q (o :: rest) a := by
  unfold wpQuiet
  rw [if_pos (by simp [Region.wanted, hg])]
  exact ⟨v, h0, h⟩
theorem cWalk_nil {Q : Act → Prop} {a : Act} (h : Q a) : wpQuiet P ops C Q [] a := h
end
end Go.Proofs.Ytoppjjgecgbbkaa
