/- lct: Copy. -/
import Derived.Test.YtoppjjgecgbbkaaLctCutsZ8
import Derived.Deep.RegionHeld3
import Derived.Shelf.SlGeneric
import Derived.Ground.SlgnProg
import Derived.Shelf.SlicesE.Clone
/- lct: the forest after some links, of which those that are refused are left out. -/
namespace Go.Proofs.Ytoppjjgecgbbkaa
open Go.RowKit Classical
set_option maxRecDepth 10000
set_option maxHeartbeats 800000

/-- The edges of a list. -/
def EK (K : List (Nat × Nat)) : Nat → Nat → Prop := fun v u => (v, u) ∈ K ∨ (u, v) ∈ K
theorem EK_snoc (K : List (Nat × Nat)) (a b : Nat) : EK (K ++ [(a, b)]) = addE (EK K) a b := by
  refine E_ext (fun v u => ?_)
  simp only [EK, addE, List.mem_append, List.mem_singleton, Prod.mk.injEq]
  constructor
  · rintro ((h | h) | (h | h))
    · exact .inl (.inl h)
    · exact .inr (.inl h)
    · exact .inl (.inr h)
    · exact .inr (.inr ⟨h.2, h.1⟩)
  · rintro ((h | h) | h | h)
    · exact .inl (.inl h)
    · exact .inr (.inl h)
    · exact .inl (.inr h)
    · exact .inr (.inr ⟨h.2, h.1⟩)
theorem EK_nil : EK [] = fun _ _ => False := E_ext (fun v u => by simp [EK])

noncomputable def growK (n : Nat) (z : Nat → Int × Int) : Nat → List (Nat × Nat)
  | 0 => []
  | k + 1 => if linkCode n (EK (growK n z k)) (z k).1 (z k).2 = 0 then growK n z k ++ [((z k).1.toNat, (z k).2.toNat)] else growK n z k

theorem growK_E (n : Nat) (z : Nat → Int × Int) (k : Nat) : EK (growK n z (k + 1)) = linkE n (EK (growK n z k)) (z k).1 (z k).2 := by
  simp only [growK]
  unfold linkE
  by_cases h : linkCode n (EK (growK n z k)) (z k).1 (z k).2 = 0
  · rw [if_pos h, if_pos h, EK_snoc]
  · rw [if_neg h, if_neg h]
theorem growK_len (n : Nat) (z : Nat → Int × Int) : ∀ k, (growK n z k).length ≤ k
  | 0 => Nat.le_refl _
  | k + 1 => by
    have := growK_len n z k
    simp only [growK]
    split
    · simp; omega
    · omega

/-- The cells of a row of pairs. -/
def pairCells (K : List (Nat × Nat)) : List Value := K.flatMap fun p => [.int .i64 p.1, .int .i64 p.2]
theorem pairCells_len (K : List (Nat × Nat)) : (pairCells K).length = K.length * 2 := by
  induction K with
  | nil => rfl
  | cons p K ih => simp only [pairCells, List.flatMap_cons, List.length_append, List.length_cons, List.length_nil] at *; omega
theorem pairCells_snoc (K : List (Nat × Nat)) (p : Nat × Nat) : pairCells (K ++ [p]) = pairCells K ++ [.int .i64 p.1, .int .i64 p.2] := by simp [pairCells]

def pairv : Value := .agg #[.int .i64 0, .int .i64 0]
theorem Try.info30 : (Try.prog.info? 30).map (fun i => (i.zero, i.size, i.bytes)) = some (some pairv, 2, 16) := by kernel_rfl

/-- 'append(s, x)': one pair; x lies in a block of its own. -/
theorem wpList_app2 {w : World} {ops : Array Oper} {rest : List Oper} {o : Oper} {a : Act} {Q : Exit → Act → World → Prop} (hgd : o.guard = none) (s x : Operand)
    (ho : o.op = .call { callee := .builtin .append, args := #[s, x], argTypes := #[22, 22] })
    (v : Value) (n : Nat) (xs : List Value) (hs : a.eval s = v) (hown : w.ownsRow 0 30 2 v n xs)
    (b : Nat) (u0 u1 : Int) (hx : a.eval x = .slice (some ⟨b, 0, none⟩) 1 1) (h0 : w.cell? ⟨b, 0, none⟩ = some (.int .i64 u0)) (h1 : w.cell? ⟨b, 1, none⟩ = some (.int .i64 u1)) (hn : n + 1 ≤ 4294967296)
    (h : ∀ g cap w', w'.ownsRow 0 30 2 (.slice (some ⟨g, 0, none⟩) (n + 1) cap) (n + 1) (xs ++ [.int .i64 u0, .int .i64 u1]) → w.grownBy w' v.ownBlock → (v.ownBlock = some g ∨ w.heap.size ≤ g) →
      wpList Try.prog ops Q rest (a.put o.dst (.slice (some ⟨g, 0, none⟩) (n + 1) cap)) w') : wpList Try.prog ops Q (o :: rest) a w := by
  obtain ⟨i0, hi, hz0, hz1, hz2⟩ := info_parts Try.info30
  refine wpList_app hgd s x 22 ho 30 i0 pairv 2 16 Try.underlying22 hi hz0 hz1 hz2 rfl (by decide) v n xs hs hown ⟨b, 0, none⟩ 1 1 [.int .i64 u0, .int .i64 u1] hx rfl ?_ ?_ (by decide) (by unfold maxLen; omega) (by omega) h
  · intro j y hj
    match j, hj with
    | 0, hj => simp at hj; subst hj; exact h0
    | 1, hj => simp at hj; subst hj; exact h1
    | j + 2, hj => simp at hj
  · intro u hu
    simp at hu
    rcases hu with rfl | rfl <;> rfl

theorem grown_w (W : World) (n : Nat) (hn : n ≤ 120) (a : Option Addr) (len cap : Nat) (hlen : len ≤ 120) (z : Nat → Int × Int) (hz : PairsF W a len z) :
    Calls Try.prog 19 #[.int .i64 n, .slice a len cap] W fun e w' => ∃ pf g v, e = .returned (.tuple #[.pointer (some ⟨pf, 0, none⟩), v]) ∧ Own1 W w' pf g n (EK (growK n z len)) (fun _ => 0) ∧
      w'.ownsRow 0 30 2 v (growK n z len).length (pairCells (growK n z len)) ∧ ∀ q, v.ownBlock = some q → W.heap.size ≤ q ∧ q ≠ pf ∧ q ≠ g := by
  have HZ := Lib.hid hz; clear hz
  go_enter Try.func19, Try.ntmps19
  go_wp2_with fail
  refine (new_w n W (by omega)).mono ?_
  rintro _ w1 ⟨pf, g, rfl, h1, f1, hp, hg⟩
  have HO := Lib.hid (Own1.mk h1 f1 hp hg)
  clear h1 f1
  go_wp2
  go_loopw [8, 9] (fun v y wr => ∃ k : Nat, k ≤ len ∧ y = .int .i64 k ∧ Hid (Own1 W wr pf g n (EK (growK n z k)) (fun _ => 0)) ∧ wr.ownsRow 0 30 2 v (growK n z k).length (pairCells (growK n z k)) ∧ Hid (∀ q, v.ownBlock = some q → W.heap.size ≤ q ∧ q ≠ pf ∧ q ≠ g)) (fun _ y _ => len - (intOf y).toNat)
  case atStart => exact ⟨0, Nat.zero_le _, rfl, Lib.hid (by simp only [growK]; rw [EK_nil]; exact HO.out), World.ownsRow_nil _ _ _ _, Lib.hid (fun q e => by cases e)⟩
  case round =>
    clear HO
    obtain ⟨k, hk, rfl, HO, hown, HQ⟩ := hrel
    obtain ⟨a9, c9, rfl⟩ := ownsRow_slice hown
    by_cases hlt : k < len
    · have hKl := growK_len n z k
      have HE := Lib.hid (growK_E n z k)
      have hK : linkCode n (EK (growK n z k)) (z k).1 (z k).2 = 0 → growK n z (k + 1) = growK n z k ++ [((z k).1.toNat, (z k).2.toNat)] := fun h => by simp only [growK]; rw [if_pos h]
      have hK' : linkCode n (EK (growK n z k)) (z k).1 (z k).2 ≠ 0 → growK n z (k + 1) = growK n z k := fun h => by simp only [growK]; rw [if_neg h]
      have HK := Lib.hid hK; clear hK
      have HK' := Lib.hid hK'; clear hK'
      generalize hKe : growK n z (k + 1) = K' at *
      have HKe := Lib.hid hKe; clear hKe
      generalize growK n z k = K at *
      obtain ⟨b, off, rfl, hb, q0, q1⟩ := (HZ.out.below HO.out.below).2 k hlt
      have hkl : (k : Int) < len := by omega
      generalize hz0 : (z k).1 = z0 at *
      generalize hz1 : (z k).2 = z1 at *
      have HZ01 := Lib.hid (And.intro hz0 hz1); clear hz0 hz1
      go_wp2
      refine region_one 11 (fun w' => Own1 W w' pf g n (linkE n (EK K) z0 z1) (fun _ => 0) ∧ Fr [pf, g] wr w') (by kernel_rfl) (by kernel_rfl) (by kernel_rfl) ?_
      iterate 11 (refine gWalk_pre (by decide) (fun K hK => ?_); go_simp; refine hK _ ?_; clear hK K)
      refine gWalk_write rfl (.int .i64 (linkCode n (EK K) z0 z1)) (fun w' hw' => ?_) ?_
      · obtain ⟨nq, rfl⟩ := hw'
        go_simp
        refine (link_w (HO.out.drew nq).lm z0 z1).mono ?_
        rintro e w3 ⟨rfl, h3, f3⟩
        exact ⟨rfl, (HO.out.drew nq).next h3 f3, ((Fr.refl [pf, g] wr).drewN nq).trans' f3⟩
      refine gWalk_post (by decide) (fun K hK => ?_); go_simp; refine hK _ ?_; clear hK K
      refine gWalk_nil ?_
      rintro w3 ⟨hO3, hF3⟩
      rw [← HE.out] at hO3
      have HO3 := Lib.hid hO3; clear hO3
      have hown3 : w3.ownsRow 0 30 2 (.slice a9 K.length c9) K.length (pairCells K) := ownsRow_same hown (fun q hq => hF3.keep q (hown.lt q hq).2 (by have := HQ.out q hq; simp; omega))
      clear hown q0 q1
      have hfx := link_facts HO.out.lm (HE.out ▸ HO3.out.lm)
      clear HO
      obtain ⟨b', off', e, hb', q0, q1⟩ := (HZ.out.below HO3.out.below).2 k hlt
      simp only [Option.some.injEq, Addr.mk.injEq, and_true] at e
      obtain ⟨rfl, rfl⟩ := e
      rw [HZ01.out.1] at q0
      rw [HZ01.out.2] at q1
      have hsz := HO3.out.fr.size
      obtain ⟨hpl, hgl, _⟩ := LG.lts HO3.out.lm
      rcases hfx with ⟨f1, f2, f3⟩ | ⟨f1, f2, f3⟩
      · have hv : inV n z0 = true ∧ inV n z1 = true := by
          apply Classical.byContradiction; intro e; unfold linkCode at f1; rw [if_neg e] at f1; cases f1
        obtain ⟨x0, rfl, hx0⟩ := inV_nat hv.1
        obtain ⟨x1, rfl, hx1⟩ := inV_nat hv.2
        have HK2 := Lib.hid (HK.out f1)
        rw [f1]
        clear f1 f2 f3 HK HK' hv
        go_wp2_with (at_builtin; refine wpList_app2 rfl _ _ rfl (.slice a9 K.length c9) K.length _ rfl (hown3.alloc _) w3.heap.size x0 x1 rfl ((Blk.new w3 [.int .i64 x0, .int .i64 x1] 30).cell 0) ((Blk.new w3 [.int .i64 x0, .int .i64 x1] 30).cell 1) (by omega) ?_; intro g' cap' w4 hown4 hgrow4 hg4)
        go_roundw
        case rel =>
          have hsz4 := hgrow4.size
          simp only [World.size_alloc] at hsz4 hg4
          have hF4 : Fr (Value.slice a9 K.length c9).ownBlock.toList w3 w4 := ⟨hgrow4.os, hgrow4.tape, hgrow4.output, by omega, fun q hq hn => by
            rw [hgrow4.block q (by simp; omega) (fun e => hn (by simp [← e])), Below.heap_alloc _ _ _ hq]⟩
          refine ⟨k + 1, by omega, by go_num, Lib.hid (by rw [HKe.out]; exact ⟨LG.fr HO3.out.lm hF4 (fun hm => (HQ.out pf (by simpa using hm)).2.1 rfl) (fun hm => (HQ.out g (by simpa using hm)).2.2 rfl), HO3.out.fr.trans hF4 (fun q hq => .inr (HQ.out q (by simpa using hq)).1), HO3.out.pf, HO3.out.g⟩), ?_, Lib.hid (fun q e => ?_)⟩
          · have e2 : K' = K ++ [(x0, x1)] := HK2.out
            rw [HKe.out, e2, pairCells_snoc, List.length_append]
            exact hown4
          · simp only [Value.ownBlock, Option.some.injEq] at e
            subst e
            rcases hg4 with h | h
            · exact HQ.out _ h
            · omega
        case measure => simp [intOf]; omega
      · have HK2 := Lib.hid (HK'.out f1)
        have hb0 : (linkCode n (EK K) z0 z1 == 0) = false := beq_eq_false_iff_ne.2 f1
        clear f1 f2 f3 HK HK'
        go_wp2
        go_roundw
        case rel => exact ⟨k + 1, by omega, by go_num, Lib.hid (by rw [HKe.out]; exact HO3.out), by rw [HKe.out, HK2.out]; exact hown3, HQ⟩
        case measure => simp [intOf]; omega
    · obtain rfl : k = len := by omega
      go_wp2
      go_ret2
      exact ⟨pf, g, _, rfl, HO.out, hown, HQ.out⟩

end Go.Proofs.Ytoppjjgecgbbkaa

/- LctMeets: the plain law, and the walk. -/
namespace Go.Proofs.Ytoppjjgecgbbkaa
open Go.RowKit Classical
set_option maxRecDepth 10000
set_option maxHeartbeats 800000

section
variable {n : Nat} {E : Nat → Nat → Prop} {a b c : Int}
theorem conn_swap (h : Frs E) : connB n E a b = connB n E b a := by
  rw [Bool.eq_iff_iff, connB_iff, connB_iff]
  exact ⟨fun ⟨x, y, z⟩ => ⟨y, x, h.csymm z⟩, fun ⟨x, y, z⟩ => ⟨y, x, h.csymm z⟩⟩
theorem conn_tr (h : Frs E) (h1 : connB n E a b = true) (h2 : connB n E b c = true) : connB n E a c = true := by
  rw [connB_iff] at *
  exact ⟨h1.1, h2.2.1, h.ctrans h1.2.2 h2.2.2⟩
theorem meetB_turn (h : Frs E) : meetB n E c a b = meetB n E a b c := by
  unfold meetB
  rw [Bool.eq_iff_iff, Bool.and_eq_true, Bool.and_eq_true]
  constructor
  · rintro ⟨h1, h2⟩
    exact ⟨h2, conn_tr h ((conn_swap h).trans h2) ((conn_swap h).trans h1)⟩
  · rintro ⟨h1, h2⟩
    exact ⟨conn_tr h ((conn_swap h).trans h2) ((conn_swap h).trans h1), h1⟩
theorem meetB_swap (h : Frs E) : meetB n E b a c = meetB n E a b c := by
  unfold meetB
  rw [Bool.eq_iff_iff, Bool.and_eq_true, Bool.and_eq_true]
  constructor
  · rintro ⟨h1, h2⟩
    exact ⟨(conn_swap h).trans h1, conn_tr h h1 h2⟩
  · rintro ⟨h1, h2⟩
    exact ⟨(conn_swap h).trans h1, conn_tr h h1 h2⟩
theorem meets_turn {a b c m : Nat} (hm : MeetsAt E a b c m) : MeetsAt E c a b m := by
  obtain ⟨p, q, r, h1, h2, h3, h4⟩ := hm
  exact ⟨r, p, q, h3, h1, h2, fun x => by rw [← h4 x]; exact ⟨fun ⟨u, v, w⟩ => ⟨v, w, u⟩, fun ⟨u, v, w⟩ => ⟨w, u, v⟩⟩⟩
theorem meets_swap (h : Frs E) {a b c m : Nat} (hm : MeetsAt E a b c m) : MeetsAt E b a c m := by
  obtain ⟨p, q, r, h1, h2, h3, h4⟩ := hm
  have hs : ∀ v u, E v u → E u v := fun _ _ e => h.symm e
  exact ⟨p.reverse, r.reverse, q.reverse, h1.rev hs, h3.rev hs, h2.rev hs, fun x => by simp only [List.mem_reverse]; rw [← h4 x]; exact ⟨fun ⟨u, v, w⟩ => ⟨u, w, v⟩, fun ⟨u, v, w⟩ => ⟨u, w, v⟩⟩⟩
/-- The paths between three connected vertices meet. -/
theorem meets_ex (h : Frs E) {a b c : Nat} (h1 : Conn E a b) (h2 : Conn E b c) : ∃ m, MeetsAt E a b c m := by
  obtain ⟨p, hp⟩ := h1
  obtain ⟨q, hq⟩ := h.ctrans ⟨p, hp⟩ h2
  -- the last vertex of the path to c that lies on the path to b
  have key : ∀ (l A : List Nat), A ++ l = q → (∀ x ∈ l, x ∉ p) ∨ ∃ C m D, q = C ++ m :: D ∧ m ∈ p ∧ ∀ x ∈ D, x ∉ p := by
    intro l
    induction l with
    | nil => intro A _; exact .inl (fun x hx => by cases hx)
    | cons y l ih =>
      intro A hA
      rcases ih (A ++ [y]) (by simp [hA]) with h1 | h1
      · by_cases hy : y ∈ p
        · exact .inr ⟨A, y, l, hA.symm, hy, h1⟩
        · exact .inl (fun x hx => by rcases List.mem_cons.1 hx with rfl | hx; exact hy; exact h1 x hx)
      · exact .inr h1
  rcases key q [] rfl with h0 | ⟨C, m, D, rfl, hm, hD⟩
  · obtain ⟨l, rfl⟩ := hq.first
    obtain ⟨l', rfl⟩ := hp.first
    exact absurd (by simp) (h0 a (by simp))
  · obtain ⟨A, R, rfl⟩ := List.append_of_mem hm
    have e := h.unique hp.split.1 hq.split.1
    have e2 : A = C := by simpa using e
    subst e2
    exact ⟨m, meet_paths h hp hq hD⟩
theorem meetI_turn (h : Frs E) : meetI n E c a b = meetI n E a b c := by
  unfold meetI
  rw [meetB_turn h]
  by_cases hb : meetB n E a b c = true
  · rw [if_pos hb, if_pos hb]
    unfold meetB at hb
    rw [Bool.and_eq_true, connB_iff, connB_iff] at hb
    obtain ⟨m, hm⟩ := meets_ex h hb.1.2.2 hb.2.2.2
    rw [theMeet_eq h hm, theMeet_eq h (meets_turn hm)]
  · rw [if_neg hb, if_neg hb]
theorem meetI_swap (h : Frs E) : meetI n E b a c = meetI n E a b c := by
  unfold meetI
  rw [meetB_swap h]
  by_cases hb : meetB n E a b c = true
  · rw [if_pos hb, if_pos hb]
    unfold meetB at hb
    rw [Bool.and_eq_true, connB_iff, connB_iff] at hb
    obtain ⟨m, hm⟩ := meets_ex h hb.1.2.2 hb.2.2.2
    rw [theMeet_eq h hm, theMeet_eq h (meets_swap h hm)]
  · rw [if_neg hb, if_neg hb]

theorem wk_lt (hlt : ∀ v u, E v u → v < n ∧ u < n) : ∀ {a : Nat} {l : List Nat}, Wk E a l → ∀ x ∈ l, x < n
  | _, y :: l, ⟨h1, h2⟩, x, hx => by
    rcases List.mem_cons.1 hx with rfl | hx
    · exact (hlt _ _ h1).2
    · exact wk_lt hlt h2 x hx
theorem dist_over (h : Frs E) (hlt : ∀ v u, E v u → v < n ∧ u < n) {a b m : Nat} (ha : a < n) (hb : b < n) {p : List Nat} (hp : IsPath E a b p) (hm : m ∈ p) : distI n E a m + distI n E m b = distI n E a b := by
  obtain ⟨A, B, rfl⟩ := List.append_of_mem hm
  have hmn : m < n := by
    obtain ⟨l, e, hw, _⟩ := hp
    rw [e] at hm
    rcases List.mem_cons.1 hm with rfl | hm
    · exact ha
    · exact wk_lt hlt hw m hm
  rw [dist_nat h ha hb hp, dist_nat h ha hmn hp.split.1, dist_nat h hmn hb hp.split.2]
  simp only [List.length_append, List.length_cons, List.length_nil]
  omega
theorem dist_le (h : Frs E) (hlt : ∀ v u, E v u → v < n ∧ u < n) (a b : Int) : -1 ≤ distI n E a b ∧ distI n E a b ≤ n := by
  by_cases hc : ConnI n E a b
  · obtain ⟨va, vb, p, hp⟩ := hc
    obtain ⟨x, rfl, hx⟩ := inV_nat va
    obtain ⟨y, rfl, hy⟩ := inV_nat vb
    simp only [Int.toNat_natCast] at hp
    rw [dist_nat h hx hy hp]
    have h1 : p.length ≤ n := nodup_le hp.nd (fun z hz => by
      obtain ⟨l, rfl, hw, _⟩ := hp
      rcases List.mem_cons.1 hz with rfl | hz
      · exact hx
      · exact wk_lt hlt hw z hz)
    have h2 : 0 < p.length := List.length_pos_iff.2 hp.ne
    omega
  · unfold distI; rw [if_neg hc]; omega
end

/-- The three equations between distances. -/
theorem meets_dist {n : Nat} {E : Nat → Nat → Prop} (h : Frs E) (hlt : ∀ v u, E v u → v < n ∧ u < n) {a b c : Int} (hm : meetB n E a b c = true) :
    distI n E a (meetI n E a b c) + distI n E (meetI n E a b c) b = distI n E a b ∧ distI n E b (meetI n E a b c) + distI n E (meetI n E a b c) c = distI n E b c ∧ distI n E c (meetI n E a b c) + distI n E (meetI n E a b c) a = distI n E c a := by
  have hm' := hm
  unfold meetB at hm
  rw [Bool.and_eq_true, connB_iff, connB_iff] at hm
  obtain ⟨va, vb, c1⟩ := hm.1
  obtain ⟨_, vc, c2⟩ := hm.2
  obtain ⟨x, rfl, hx⟩ := inV_nat va
  obtain ⟨y, rfl, hy⟩ := inV_nat vb
  obtain ⟨z, rfl, hz⟩ := inV_nat vc
  simp only [Int.toNat_natCast] at c1 c2
  obtain ⟨m, hmt⟩ := meets_ex h c1 c2
  have e : meetI n E x y z = m := by unfold meetI; rw [hm', if_pos rfl, Int.toNat_natCast, Int.toNat_natCast, Int.toNat_natCast, theMeet_eq h hmt]
  rw [e]
  obtain ⟨p, q, r, q1, q2, q3, q4⟩ := hmt
  obtain ⟨m1, m2, m3⟩ := (q4 m).2 rfl
  exact ⟨dist_over h hlt hx hy q1 m1, dist_over h hlt hy hz q2 m2, dist_over h hlt hz hx q3 m3⟩

theorem walk_lctMeets (W : World) (n : Int) (_wn : (Lit.int .i64 n).wf = true) (a : Option Addr) (len cap : Nat) (z : Nat → Int × Int) (hz : PairsF W a len z) (t : Int × Int × Int) (_ht : True) :
    Calls Try.prog 4 #[.int .i64 n, .slice a len cap, .agg #[.int .i64 t.1, .int .i64 t.2.1, .int .i64 t.2.2]] W fun e w' => e = .returned (.bool true) ∧ Below W.heap.size W w' := by
  obtain ⟨t0, t1, t2⟩ := t
  have hlen := hz.1
  have HZ := Lib.hid hz; clear hz
  go_enter Try.func4, Try.ntmps4
  go_wp2_with fail
  have hB0 : Below W.heap.size W (W.alloc (.cells #[.int .i64 t0, .int .i64 t1, .int .i64 t2] 34)) := (Below.refl _ W).alloc (Nat.le_refl _) _
  have hblk := Blk.new W [.int .i64 t0, .int .i64 t1, .int .i64 t2] 34
  have hs0 : (W.alloc (.cells #[.int .i64 t0, .int .i64 t1, .int .i64 t2] 34)).heap.size = W.heap.size + 1 := by simp
  generalize W.alloc (.cells #[.int .i64 t0, .int .i64 t1, .int .i64 t2] 34) = W0 at *
  have c0 : W0.cell? ⟨W.heap.size, 0, none⟩ = some (.int .i64 t0) := hblk.cell 0
  have c1 : W0.cell? ⟨W.heap.size, 1, none⟩ = some (.int .i64 t1) := hblk.cell 1
  have c2 : W0.cell? ⟨W.heap.size, 2, none⟩ = some (.int .i64 t2) := hblk.cell 2
  have HC := Lib.hid (And.intro c0 (And.intro c1 c2)); clear c0 c1 c2 hblk
  have HZ0 := Lib.hid (HZ.out.below hB0)
  refine (small_w W0 n a len cap hlen).mono ?_
  rintro _ w ⟨rfl, rfl⟩
  cases hsm : smallB n len with
  | false =>
    go_wp2_with fail
    refine (works_w w).mono ?_
    rintro _ w2 ⟨rfl, hB⟩
    go_wp2
    go_ret
    exact ⟨rfl, hB0.trans (hB.mono hB0.size)⟩
  | true =>
    have hn : 0 ≤ n ∧ n ≤ 120 ∧ len ≤ 120 := by simp [smallB] at hsm; omega
    clear hsm
    obtain ⟨n, rfl⟩ : ∃ m : Nat, n = m := ⟨n.toNat, by omega⟩
    obtain ⟨_, hn1, hn2⟩ := hn
    have hn3 : n ≤ 120 := by omega
    go_wp2_with fail
    refine (grown_w w n hn3 a len cap hn2 z HZ0.out).mono ?_
    rintro _ w1 ⟨pf, g, v, rfl, hO, hown, hq⟩
    obtain ⟨a9, c9, rfl⟩ := ownsRow_slice hown
    clear hown hq
    have Hfs := Lib.hid (LG.frs hO.lm)
    have Hlt := Lib.hid (fun v u => LG.edge_lt hO.lm (v := v) (u := u))
    have HO := Lib.hid hO; clear hO
    generalize EK (growK n z len) = E at *
    have e0 := (HO.out.below.cell (p := ⟨W.heap.size, 0, none⟩) (by show W.heap.size < _; omega)).trans HC.out.1
    have e1 := (HO.out.below.cell (p := ⟨W.heap.size, 1, none⟩) (by show W.heap.size < _; omega)).trans HC.out.2.1
    have e2 := (HO.out.below.cell (p := ⟨W.heap.size, 2, none⟩) (by show W.heap.size < _; omega)).trans HC.out.2.2
    go_wp2_with fail
    refine (meet_d HO.out.lm t0 t1 t2).mono ?_
    rintro _ w2 ⟨rfl, h2, f2⟩
    have HO2 := Lib.hid (HO.out.ask h2 f2); clear h2 e0 e1 e2
    have e0 := (HO2.out.below.cell (p := ⟨W.heap.size, 0, none⟩) (by show W.heap.size < _; omega)).trans HC.out.1
    have e1 := (HO2.out.below.cell (p := ⟨W.heap.size, 1, none⟩) (by show W.heap.size < _; omega)).trans HC.out.2.1
    have e2 := (HO2.out.below.cell (p := ⟨W.heap.size, 2, none⟩) (by show W.heap.size < _; omega)).trans HC.out.2.2
    have M2 := meet_d HO2.out.lm t2 t0 t1
    rw [meetI_turn Hfs.out, meetB_turn Hfs.out] at M2
    have HM2 := Lib.hid M2; clear M2
    go_wp2_with fail
    refine HM2.out.mono ?_
    rintro _ w3 ⟨rfl, h3, f3⟩
    have HO3 := Lib.hid (HO2.out.ask h3 f3); clear h3 e0 e1 e2 HM2
    have e0 := (HO3.out.below.cell (p := ⟨W.heap.size, 0, none⟩) (by show W.heap.size < _; omega)).trans HC.out.1
    have e1 := (HO3.out.below.cell (p := ⟨W.heap.size, 1, none⟩) (by show W.heap.size < _; omega)).trans HC.out.2.1
    have e2 := (HO3.out.below.cell (p := ⟨W.heap.size, 2, none⟩) (by show W.heap.size < _; omega)).trans HC.out.2.2
    have M3 := meet_d HO3.out.lm t1 t0 t2
    rw [meetI_swap Hfs.out, meetB_swap Hfs.out] at M3
    have HM3 := Lib.hid M3; clear M3
    go_wp2_with fail
    refine HM3.out.mono ?_
    rintro _ w4 ⟨rfl, h4, f4⟩
    have HO4 := Lib.hid (HO3.out.ask h4 f4); clear h4 e0 e1 e2 HM3 HO HO2 HO3
    have e0 := (HO4.out.below.cell (p := ⟨W.heap.size, 0, none⟩) (by show W.heap.size < _; omega)).trans HC.out.1
    have e1 := (HO4.out.below.cell (p := ⟨W.heap.size, 1, none⟩) (by show W.heap.size < _; omega)).trans HC.out.2.1
    have e2 := (HO4.out.below.cell (p := ⟨W.heap.size, 2, none⟩) (by show W.heap.size < _; omega)).trans HC.out.2.2
    have hD := fun hm => meets_dist (n := n) Hfs.out Hlt.out (a := t0) (b := t1) (c := t2) hm
    have HD := Lib.hid hD; clear hD
    have hmb : meetB n E t0 t1 t2 = (connB n E t0 t1 && connB n E t1 t2) := rfl
    have hC1 := Lib.hid (connected_d HO4.out.lm t0 t1)
    generalize hmI : meetI n E t0 t1 t2 = mI at *
    generalize hmB : meetB n E t0 t1 t2 = mB at *
    clear hmI
    cases hc1 : connB n E t0 t1 with
    | false =>
      rw [hc1] at hC1 hmb
      simp only [Bool.false_and] at hmb
      subst hmb
      clear HD hmB hc1
      go_wp2_with fail
      refine hC1.out.mono ?_
      rintro _ w5 ⟨rfl, h5, f5⟩
      have HO5 := Lib.hid (HO4.out.ask h5 f5); clear h5
      go_wp2_with fail
      refine (works_w _).mono ?_
      rintro _ w6 ⟨rfl, hB⟩
      go_wp2
      go_ret
      have hb5 := HO5.out.below
      exact ⟨rfl, hB0.trans ((hb5.trans (hB.mono hb5.size)).mono hB0.size)⟩
    | true =>
      rw [hc1] at hC1 hmb
      simp only [Bool.true_and] at hmb
      have Hmb := Lib.hid hmb; clear hmb hc1 hmB
      go_wp2_with fail
      refine hC1.out.mono ?_
      rintro _ w5 ⟨rfl, h5, f5⟩
      have HO5 := Lib.hid (HO4.out.ask h5 f5); clear h5 e0 e1 e2
      have e0 := (HO5.out.below.cell (p := ⟨W.heap.size, 0, none⟩) (by show W.heap.size < _; omega)).trans HC.out.1
      have e1 := (HO5.out.below.cell (p := ⟨W.heap.size, 1, none⟩) (by show W.heap.size < _; omega)).trans HC.out.2.1
      have e2 := (HO5.out.below.cell (p := ⟨W.heap.size, 2, none⟩) (by show W.heap.size < _; omega)).trans HC.out.2.2
      have hC2 := connected_d HO5.out.lm t1 t2
      rw [← Hmb.out] at hC2
      have HC2 := Lib.hid hC2; clear hC2 Hmb
      cases mB with
      | false =>
        clear HD
        go_wp2_with fail
        refine HC2.out.mono ?_
        rintro _ w6 ⟨rfl, h6, f6⟩
        have HO6 := Lib.hid (HO5.out.ask h6 f6); clear h6
        go_wp2_with fail
        refine (works_w _).mono ?_
        rintro _ w7 ⟨rfl, hB⟩
        go_wp2
        go_ret
        have hb6 := HO6.out.below
        exact ⟨rfl, hB0.trans ((hb6.trans (hB.mono hb6.size)).mono hB0.size)⟩
      | true =>
        have HD' := Lib.hid (HD.out rfl)
        clear HD
        have HD := HD'
        go_wp2_with fail
        refine HC2.out.mono ?_
        rintro _ w6 ⟨rfl, h6, f6⟩
        have HO6 := Lib.hid (HO5.out.ask h6 f6); clear h6 e0 e1 e2 HO4 HO5 HC2 hC1
        go_wp2
        go_loopw [15] (fun x wr => ∃ k : Nat, k ≤ 3 ∧ x = .int .i64 k ∧ Hid (Own1 w wr pf g n E (fun _ => 0))) (fun x _ => 3 - (intOf x).toNat)
        case atStart => exact ⟨0, by omega, rfl, HO6⟩
        case round =>
          clear HO6
          obtain ⟨k, hk, rfl, HO⟩ := hrel
          rcases (show k = 0 ∨ k = 1 ∨ k = 2 ∨ k = 3 by omega) with rfl | rfl | rfl | rfl
          · have D1 := dist_d HO.out.lm t0 (mI : Int)
            have hne : ((distI n E t0 mI + distI n E mI t1) != distI n E t0 t1) = false := by rw [HD.out.1]; simp
            have g1 := dist_le Hfs.out Hlt.out t0 (mI : Int)
            have g2 := dist_le Hfs.out Hlt.out (mI : Int) t1
            have e0 := (HO.out.below.cell (p := ⟨W.heap.size, 0, none⟩) (by show W.heap.size < _; omega)).trans HC.out.1
            have e1 := (HO.out.below.cell (p := ⟨W.heap.size, 1, none⟩) (by show W.heap.size < _; omega)).trans HC.out.2.1
            have HD1 := Lib.hid D1; clear D1
            go_wp2_with fail
            refine HD1.out.mono ?_
            rintro _ w5 ⟨rfl, h5, f5⟩
            have HO5 := Lib.hid (HO.out.ask h5 f5); clear HD1 h5
            go_wp2_with fail
            refine (dist_d HO5.out.lm (mI : Int) t1).mono ?_
            rintro _ w6 ⟨rfl, h6, f6⟩
            have HO6 := Lib.hid (HO5.out.ask h6 f6); clear h6
            go_wp2_with fail
            refine (dist_d HO6.out.lm t0 t1).mono ?_
            rintro _ w7 ⟨rfl, h7, f7⟩
            have HO7 := Lib.hid (HO6.out.ask h7 f7); clear h7
            generalize distI n E t0 mI = x1 at *
            generalize distI n E mI t1 = x2 at *
            generalize distI n E t0 t1 = x3 at *
            go_wp2
            go_roundw
            case rel => exact ⟨1, by omega, by go_num, HO7⟩
            case measure => simp [intOf]
          · have D1 := dist_d HO.out.lm t1 (mI : Int)
            have hne : ((distI n E t1 mI + distI n E mI t2) != distI n E t1 t2) = false := by rw [HD.out.2.1]; simp
            have g1 := dist_le Hfs.out Hlt.out t1 (mI : Int)
            have g2 := dist_le Hfs.out Hlt.out (mI : Int) t2
            have e0 := (HO.out.below.cell (p := ⟨W.heap.size, 1, none⟩) (by show W.heap.size < _; omega)).trans HC.out.2.1
            have e1 := (HO.out.below.cell (p := ⟨W.heap.size, 2, none⟩) (by show W.heap.size < _; omega)).trans HC.out.2.2
            have HD1 := Lib.hid D1; clear D1
            go_wp2_with fail
            refine HD1.out.mono ?_
            rintro _ w5 ⟨rfl, h5, f5⟩
            have HO5 := Lib.hid (HO.out.ask h5 f5); clear HD1 h5
            go_wp2_with fail
            refine (dist_d HO5.out.lm (mI : Int) t2).mono ?_
            rintro _ w6 ⟨rfl, h6, f6⟩
            have HO6 := Lib.hid (HO5.out.ask h6 f6); clear h6
            go_wp2_with fail
            refine (dist_d HO6.out.lm t1 t2).mono ?_
            rintro _ w7 ⟨rfl, h7, f7⟩
            have HO7 := Lib.hid (HO6.out.ask h7 f7); clear h7
            generalize distI n E t1 mI = x1 at *
            generalize distI n E mI t2 = x2 at *
            generalize distI n E t1 t2 = x3 at *
            go_wp2
            go_roundw
            case rel => exact ⟨2, by omega, by go_num, HO7⟩
            case measure => simp [intOf]
          · have D1 := dist_d HO.out.lm t2 (mI : Int)
            have hne : ((distI n E t2 mI + distI n E mI t0) != distI n E t2 t0) = false := by rw [HD.out.2.2]; simp
            have g1 := dist_le Hfs.out Hlt.out t2 (mI : Int)
            have g2 := dist_le Hfs.out Hlt.out (mI : Int) t0
            have e0 := (HO.out.below.cell (p := ⟨W.heap.size, 2, none⟩) (by show W.heap.size < _; omega)).trans HC.out.2.2
            have e1 := (HO.out.below.cell (p := ⟨W.heap.size, 0, none⟩) (by show W.heap.size < _; omega)).trans HC.out.1
            have HD1 := Lib.hid D1; clear D1
            go_wp2_with fail
            refine HD1.out.mono ?_
            rintro _ w5 ⟨rfl, h5, f5⟩
            have HO5 := Lib.hid (HO.out.ask h5 f5); clear HD1 h5
            go_wp2_with fail
            refine (dist_d HO5.out.lm (mI : Int) t0).mono ?_
            rintro _ w6 ⟨rfl, h6, f6⟩
            have HO6 := Lib.hid (HO5.out.ask h6 f6); clear h6
            go_wp2_with fail
            refine (dist_d HO6.out.lm t2 t0).mono ?_
            rintro _ w7 ⟨rfl, h7, f7⟩
            have HO7 := Lib.hid (HO6.out.ask h7 f7); clear h7
            generalize distI n E t2 mI = x1 at *
            generalize distI n E mI t0 = x2 at *
            generalize distI n E t2 t0 = x3 at *
            go_wp2
            go_roundw
            case rel => exact ⟨3, by omega, by go_num, HO7⟩
            case measure => simp [intOf]
          · go_wp2_with fail
            refine (works_w _).mono ?_
            rintro _ w7 ⟨rfl, hB⟩
            go_wp2
            go_ret
            have hb6 := HO.out.below
            exact ⟨rfl, hB0.trans ((hb6.trans (hB.mono hb6.size)).mono hB0.size)⟩

end Go.Proofs.Ytoppjjgecgbbkaa

/- lct: Cut. -/
namespace Go.Proofs.Ytoppjjgecgbbkaa
open Go.RowKit Classical
set_option maxRecDepth 10000
set_option maxHeartbeats 800000

noncomputable def cutCode (n : Nat) (E : Nat → Nat → Prop) (a b : Int) : Int :=
  if inV n a = true ∧ inV n b = true then (if E a.toNat b.toNat then 0 else 5) else 3
noncomputable def cutE (n : Nat) (E : Nat → Nat → Prop) (a b : Int) : Nat → Nat → Prop := if cutCode n E a b = 0 then delE E a.toNat b.toNat else E

theorem dist_one {n : Nat} {E : Nat → Nat → Prop} (h : Frs E) {v u : Nat} (hv : v < n) (hu : u < n) : distI n E v u = 1 ↔ E v u := by
  constructor
  · intro e
    by_cases hc : ConnI n E v u
    · obtain ⟨_, _, p, hp⟩ := hc
      simp only [Int.toNat_natCast] at hp
      rw [dist_nat h hv hu hp] at e
      obtain ⟨l, rfl, hw, _, hl⟩ := hp
      have hlen : l.length = 1 := by simp at e; omega
      match l, hlen with
      | [x], _ =>
        simp at hl; subst hl
        exact hw.1
    · unfold distI at e; rw [if_neg hc] at e; cases e
  · intro e
    rw [dist_nat h hv hu (h.edge e)]; rfl

theorem cut_w {w : World} {pf g n : Nat} {E : Nat → Nat → Prop} {key : Nat → Int} (h : LM w pf g n E key) (a b : Int) :
    Calls Try.prog 30 #[.pointer (some ⟨pf, 0, none⟩), .int .i64 a, .int .i64 b] w fun e w' => e = .returned (.int .i64 (cutCode n E a b)) ∧ LM w' pf g n (cutE n E a b) key ∧ Fr [pf, g] w w' := by
  have H := Lib.hid h
  have hfrs := Lib.hid (LG.frs h)
  obtain ⟨hp1, hg1, hn1⟩ := LG.lts h
  obtain ⟨cap, σ, F, par, d, rt, hL, hF, hE, hk⟩ := h
  clear hF hE hk
  have hLa : LctAt (w.alloc (.cells #[.int .i64 a, .int .i64 b] 3)) pf g (n + 1) cap σ ((n : Int) - nc n E) := hL.below ((Below.refl _ w).alloc (Nat.le_refl _) _) hp1 hg1
  have hblk := Blk.new w [.int .i64 a, .int .i64 b] 3
  have hFa : Fr [] w (w.alloc (.cells #[.int .i64 a, .int .i64 b] 3)) := (Fr.refl _ _).alloc _
  have HMa := Lib.hid (LG.fr H.out hFa (by simp) (by simp))
  have hCk := check_w hLa w.heap.size 2 (fun k => if k = 0 then a else b) (by decide) (fun k hk => by
    rw [hblk.cell]
    rcases (show k = 0 ∨ k = 1 by omega) with rfl | rfl <;> rfl)
  have HCk := Lib.hid hCk; clear hCk hblk
  clear hLa hL
  go_enter Try.func30, Try.ntmps30
  go_wp2_with fail
  refine HCk.out.mono ?_
  rintro _ w1 ⟨hcode, rfl⟩
  clear HCk
  generalize w.alloc (.cells #[.int .i64 a, .int .i64 b] 3) = w1 at *
  rcases hcode with ⟨rfl, hall⟩ | ⟨rfl, k, hk, hbad⟩
  · have va : inV n a = true := hall 0 (by decide)
    have vb : inV n b = true := hall 1 (by decide)
    clear hall
    obtain ⟨v, rfl, hv⟩ := inV_nat va
    obtain ⟨u, rfl, hu⟩ := inV_nat vb
    have hd1 := dist_one (n := n) hfrs.out hv hu
    go_wp2_with fail
    refine (dist_d HMa.out (v : Int) (u : Int)).mono ?_
    rintro _ w2 ⟨rfl, hM2, hF2⟩
    by_cases he : E v u
    · have hlc : cutCode n E v u = 0 := by unfold cutCode; rw [if_pos ⟨va, vb⟩, Int.toNat_natCast, Int.toNat_natCast, if_pos he]
      have hle : cutE n E v u = delE E v u := by unfold cutE; rw [hlc, if_pos rfl, Int.toNat_natCast, Int.toNat_natCast]
      have Hlc := Lib.hid (And.intro hlc hle); clear hlc hle
      have Hd := Lib.hid (hd1.2 he)
      rw [Hd.out]
      have He := Lib.hid he
      clear va vb hd1
      obtain ⟨cap2, σ2, F2, par2, d2, rt2, hL2, hLF2, hE2, hk2⟩ := hM2
      have hrt : rt2 (v + 1) = rt2 (u + 1) := (conn_rt hLF2.rtd hE2).1 (conn_of_edge hfrs.out he)
      have HF2 := Lib.hid hLF2; clear hLF2
      have HE2 := Lib.hid hE2; clear hE2
      have HK2 := Lib.hid hk2; clear hk2
      clear he
      have hN := hL2.le
      go_wp2_with fail
      refine (path_v hL2 HF2.out v u hv hu).mono ?_
      rintro _ w3 ⟨rfl, τ, l, R, par', d', rt', hL3, hP, hF3⟩
      obtain ⟨p, hp1', hp2', _⟩ := hP.at HE2.out hrt
      have hpe : p = [v, u] := hfrs.out.unique hp1' (hfrs.out.edge He.out)
      have hls : l.seq = [v + 1] := by
        rw [hpe] at hp2'
        simp only [List.map_cons, List.map_nil] at hp2'
        have e : [v + 1] ++ [u + 1] = l.seq ++ [u + 1] := hp2'
        exact (List.append_cancel_right e).symm
      have HCt := Lib.hid (hP.lf.cut hls)
      have HPk := Lib.hid (And.intro hP.key hP.adj)
      clear hP hp1' hp2' hpe hls hrt
      have d3 := hL3.hd.cell 1
      simp only [List.getElem?_cons_zero, List.getElem?_cons_succ] at d3
      have hfz3 := hL3.nodes.frozen
      have a2 := hL3.nodes.c2 (v + 1) (by omega)
      obtain ⟨hL4, hF4⟩ : LctAt (w3.setCell ⟨g, (v + 1) * 9 + 2, none⟩ (.int .i64 0)) pf g (n + 1) cap2 (τ.upd (v + 1) { τ (v + 1) with up := 0 }) ((n : Int) - nc n E) ∧ Fr [g] w3 (w3.setCell ⟨g, (v + 1) * 9 + 2, none⟩ (.int .i64 0)) := hL3.st2 (Fr.refl [g] w3) (i := v + 1) (by omega) 0
      have hv2 : ((v + 1 : Nat) : Int) < ((n + 1 : Nat) : Int) := by omega
      have hu2 : ((u + 1 : Nat) : Int) < ((n + 1 : Nat) : Int) := by omega
      have d4 := hL4.hd.cell 1
      simp only [List.getElem?_cons_zero, List.getElem?_cons_succ] at d4
      have hfz4 := hL4.nodes.frozen
      have b0 := hL4.nodes.c0 (u + 1) (by omega)
      obtain ⟨hL5, hF5⟩ := hL4.st0 hF4 (i := u + 1) (by omega) 0
      have HL5 : Hid (LctAt ((w3.setCell ⟨g, (v + 1) * 9 + 2, none⟩ (.int .i64 0)).setCell ⟨g, (u + 1) * 9, none⟩ (.int .i64 0)) pf g (n + 1) cap2 (cut2 τ (v + 1) (u + 1)) ((n : Int) - nc n E) ∧ Fr [g] w3 ((w3.setCell ⟨g, (v + 1) * 9 + 2, none⟩ (.int .i64 0)).setCell ⟨g, (u + 1) * 9, none⟩ (.int .i64 0))) := Lib.hid (And.intro hL5 hF5)
      clear hL5 hF5 hL4 hF4
      go_wp2_with fail
      refine (refresh_v HL5.out.1 u hu HCt.out.2.2.2.2 HCt.out.2.2.1 HCt.out.2.2.2.1).mono ?_
      rintro _ w6 ⟨rfl, hL6, hF6⟩
      have hF36 : Fr [g] w3 w6 := HL5.out.2.then hF6
      clear HL5 d3 hfz3 a2 d4 hfz4 b0
      have c6 := hL6.hd.cell 2
      simp only [List.getElem?_cons_zero, List.getElem?_cons_succ] at c6
      have hfz6 := hL6.hd.frozen 2
      obtain ⟨par3, d3', rt3, F3, q1, q2⟩ := HCt.out.1
      have hDE : ∀ x y, delE E v u x y ↔ Adj par3 (x + 1) (y + 1) := by
        intro x y
        rw [q2, HPk.out.2]
        unfold delE
        rw [HE2.out x y]
        simp only [Nat.add_right_cancel_iff]
      have hcnt := nc_del (n := n) hfrs.out ⟨par3, d3', rt3, q1.rtd, hDE⟩ He.out hv hu
      have hnc1 := nc_le n (delE E v u)
      obtain ⟨hL8, hF8⟩ := hL6.edges (hF2.then (hF3.then hF36)) ((n : Int) - nc n (delE E v u))
      have Hfin := Lib.hid (show LM _ pf g n (delE E v u) key from ⟨cap2, _, F3, par3, d3', rt3, hL8, q1, hDE, fun x hx => by rw [HCt.out.2.1, HPk.out.1]; exact HK2.out x hx⟩)
      have he2 : (n : Int) - nc n E - 1 = (n : Int) - nc n (delE E v u) := by omega
      have He2 := Lib.hid he2
      clear hL8 q1 q2 hDE hcnt he2 HCt
      have hncE := nc_le n E
      generalize nc n E = z1 at *
      generalize nc n (delE E v u) = z2 at *
      go_wp2
      go_ret
      rw [Hlc.out.1, Hlc.out.2, He2.out]
      exact ⟨rfl, Hfin.out, (hFa.mono (S' := [pf, g]) (by simp)).trans hF8 (fun q hq => .inl hq)⟩
    · have hlc : cutCode n E v u = 5 := by unfold cutCode; rw [if_pos ⟨va, vb⟩, Int.toNat_natCast, Int.toNat_natCast, if_neg he]
      have hle : cutE n E v u = E := by unfold cutE; rw [hlc]; simp
      have Hlc := Lib.hid (And.intro hlc hle); clear hlc hle
      have hne : (distI n E v u != 1) = true := bne_iff_ne.2 (fun e => he (hd1.1 e))
      have HM2 := Lib.hid hM2
      clear va vb hd1 he hM2
      go_wp2
      go_ret
      rw [Hlc.out.1, Hlc.out.2]
      exact ⟨rfl, HM2.out, (hFa.mono (S' := [pf, g]) (by simp)).trans hF2 (fun q hq => .inl (by simp at hq; simp [hq]))⟩
  · have hlc : cutCode n E a b = 3 := by
      unfold cutCode; rw [if_neg]
      rintro ⟨h1, h2⟩
      rcases (show k = 0 ∨ k = 1 by omega) with rfl | rfl
      · have hbad : inV n a = false := hbad; rw [h1] at hbad; cases hbad
      · have hbad : inV n b = false := hbad; rw [h2] at hbad; cases hbad
    have hle : cutE n E a b = E := by unfold cutE; rw [hlc]; simp
    have Hlc := Lib.hid (And.intro hlc hle); clear hlc hle hbad
    go_wp2
    go_ret
    rw [Hlc.out.1, Hlc.out.2]
    exact ⟨rfl, HMa.out, hFa.mono (by simp)⟩

end Go.Proofs.Ytoppjjgecgbbkaa

namespace Go.Proofs.Ytoppjjgecgbbkaa
open Go.RowKit Classical
set_option maxRecDepth 10000
set_option maxHeartbeats 800000

def Try.laysClone_ren : Go.Shelf.Ren := ⟨fun | 41 => 49 | n => n, fun | 22 => 63 | 23 => 71 | 4 => 4 | n => n, fun | n => n⟩
theorem Try.laysClone : Go.Proofs.SlLaysE0.n41 Try.prog Try.laysClone_ren := {
  mixed := by kernel_rfl
  f41 := ⟨Try.f49.name, by decide, Try.func49.trans (congrArg some (by kernel_rfl))⟩
  t4 := Try.underlying4
  a4 := Try.isAgg4
  z4 := Try.sizeOf4
  v4 := Try.zeroValue4
  t22 := Try.underlying63
  a22 := Try.isAgg63
  z22 := Try.sizeOf63
  v22 := Try.zeroValue63 }

theorem fv_one (n : Nd) (f : Nat) : (fv n f).oneCell' = true := by
  match f with
  | 0 | 1 | 2 | 3 | 4 | 5 | 6 | 7 => rfl
  | _ + 8 => rfl

theorem clone_w {w : World} {g N cap : Nat} {σ : Tbl} (h : NodesAt w g N σ) (hN : N ≤ 65537) (h0 : 0 < N) :
    Calls Try.prog 49 #[.slice (some ⟨g, 0, none⟩) N cap] w fun e w' => ∃ g' cap', e = .returned (.slice (some ⟨g', 0, none⟩) N cap') ∧ N ≤ cap' ∧ NodesAt w' g' N σ ∧ w.heap.size ≤ g' ∧ Fr [] w w' := by
  obtain ⟨i0, hi, hz0, hz1, hz2⟩ := info_parts Try.info71
  obtain ⟨arr, ha, hs, hc⟩ := h
  have hl : (arr.toList.take (N * 9)).length = N * 9 := by simp; omega
  have hat : ∀ j u, (arr.toList.take (N * 9))[j]? = some u → j < N * 9 ∧ arr[j]? = some u := by
    intro j u hj
    rw [List.getElem?_take] at hj
    split at hj
    · exact ⟨by assumption, by simpa using hj⟩
    · cases hj
  refine (AnyE.slices_Clone Try.laysClone i0 ndv 9 72 hi hz0 hz1 hz2 (by rw [ndv_cells]; rfl) (by decide) Try.sizeOf71 g 0 N cap (arr.toList.take (N * 9)) w hl (by unfold maxLen; omega) (by omega) (fun j u hj => by
      have := (hat j u hj).2
      simp [World.cell?, ha, this]) (fun u hu => by
      obtain ⟨j, hj⟩ := List.mem_iff_getElem?.1 hu
      obtain ⟨h1, h2⟩ := hat j u hj
      have := hc (j / 9) (by omega) (j % 9) (Nat.mod_lt _ (by decide))
      rw [show j / 9 * 9 + j % 9 = j by omega, h2] at this
      cases this; exact fv_one _ _)).mono ?_
  rintro _ w' ⟨v, rfl, ⟨_, hv⟩, hn, hB⟩
  rcases hv with ⟨rfl, _⟩ | ⟨g', cap', cur, rfl, hg, hcur, hcap, _, hsz, htk⟩
  · exact absurd rfl hn
  · refine ⟨g', cap', rfl, hcap, ⟨cur, hcur, by omega, fun i hi f hf => ?_⟩, hg, Fr.of_below hB⟩
    rw [← hc i hi f hf]
    have h1 : (cur.toList.take (N * 9))[i * 9 + f]? = cur[i * 9 + f]? := by rw [List.getElem?_take, if_pos (by omega)]; simp
    have h2 : (arr.toList.take (N * 9))[i * 9 + f]? = arr[i * 9 + f]? := by rw [List.getElem?_take, if_pos (by omega)]; simp
    rw [← h1, ← h2, htk]

theorem copy_w {w : World} {pf g n : Nat} {E : Nat → Nat → Prop} {key : Nat → Int} (h : LM w pf g n E key) :
    Calls Try.prog 29 #[.pointer (some ⟨pf, 0, none⟩)] w fun e w' => ∃ pf' g', e = .returned (.pointer (some ⟨pf', 0, none⟩)) ∧ LM w' pf' g' n E key ∧ Fr [] w w' ∧ w.heap.size ≤ pf' ∧ w.heap.size ≤ g' := by
  have H := Lib.hid h
  obtain ⟨cap, σ, F, par, d, rt, hL, hF, hE, hk⟩ := h
  have hN := hL.le
  have HR := Lib.hid (And.intro hF (And.intro hE hk)); clear hF hE hk
  have c1 := hL.hd.cell 1
  have c2 := hL.hd.cell 2
  simp only [List.getElem?_cons_zero, List.getElem?_cons_succ] at c1 c2
  have hpf := hL.hd.lt
  have HL := Lib.hid hL
  go_enter Try.func29, Try.ntmps29
  go_wp2_with fail
  refine (valid_w (hL.hd.cell 0)).mono ?_
  rintro _ w1 ⟨rfl, rfl⟩
  have HC := Lib.hid (clone_w (cap := cap) (hL.nodes.eqv (Eqv.drew w1)) hN (by omega))
  generalize hed : (n : Int) - nc n E = ed at *
  go_wp2
  go_region_held3 (fun w' => w'.cell? ⟨pf, 1, none⟩ = some (.slice (some ⟨g, 0, none⟩) (n + 1) cap) ∧ w'.cell? ⟨pf, 2, none⟩ = some (.int .i64 ed))
    (first
      | go_keep
      | (exact ⟨hF3.cell (by assumption) (by simp), hF3.cell (by assumption) (by simp)⟩))
    (first
      | (go_at_call 49; refine HC.out.mono ?_; rintro e w3 ⟨g', cap', rfl, hcap', hNd', hg', hF3⟩))
  go_wp2
  go_ret
  have hlt := hNd'.lt
  have hsz := hF3.size
  have hsz2 : w1.drew.heap.size = w1.heap.size := rfl
  refine ⟨w3.heap.size, g', rfl, ?_, ((Fr.refl [] w1).drew.trans' hF3).alloc _, by omega, by omega⟩
  show LG _ _ _ _ _ _ ((n : Int) - nc n E)
  rw [hed]
  exact ⟨cap', σ, F, par, d, rt, ⟨Blk.new w3 [_, _, _] 65, hNd'.same (by rw [heap_alloc_old w3 _ hlt]), by omega, hN, hcap'⟩, HR.out.1, HR.out.2.1, HR.out.2.2⟩

end Go.Proofs.Ytoppjjgecgbbkaa
