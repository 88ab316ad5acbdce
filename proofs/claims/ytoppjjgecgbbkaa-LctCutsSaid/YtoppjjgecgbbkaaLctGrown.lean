/- lct: the forest after some links, of which those that are refused are left out. -/
import Derived.Test.YtoppjjgecgbbkaaLctCountsW
namespace Go.Proofs.Ytoppjjgecgbbkaa
open Go.RowKit Classical
set_option maxRecDepth 10000
set_option maxHeartbeats 800000

/-- The edges of a list. -/
def EK (K : List (Nat × Nat)) : Nat → Nat → Prop := fun v u => (v, u) ∈ K ∨ (u, v) ∈ K
theorem EK_snoc (K : List (Nat × Nat)) (a b : Nat) : EK (K ++ [(a, b)]) = addE (EK K) a b := by
  refine E_ext (fun v u => ?_)
  simp only [EK, addE, List.mem_append, List.mem_singleton, Prod.mk.injEq]
  constructor
  · rintro ((h | h) | (h | h))
    · exact .inl (.inl h)
    · exact .inr (.inl h)
    · exact .inl (.inr h)
    · exact .inr (.inr ⟨h.2, h.1⟩)
  · rintro ((h | h) | h | h)
    · exact .inl (.inl h)
    · exact .inr (.inl h)
    · exact .inl (.inr h)
    · exact .inr (.inr ⟨h.2, h.1⟩)
theorem EK_nil : EK [] = fun _ _ => False := E_ext (fun v u => by simp [EK])

noncomputable def growK (n : Nat) (z : Nat → Int × Int) : Nat → List (Nat × Nat)
  | 0 => []
  | k + 1 => if linkCode n (EK (growK n z k)) (z k).1 (z k).2 = 0 then growK n z k ++ [((z k).1.toNat, (z k).2.toNat)] else growK n z k

theorem growK_E (n : Nat) (z : Nat → Int × Int) (k : Nat) : EK (growK n z (k + 1)) = linkE n (EK (growK n z k)) (z k).1 (z k).2 := by
  simp only [growK]
  unfold linkE
  by_cases h : linkCode n (EK (growK n z k)) (z k).1 (z k).2 = 0
  · rw [if_pos h, if_pos h, EK_snoc]
  · rw [if_neg h, if_neg h]
theorem growK_len (n : Nat) (z : Nat → Int × Int) : ∀ k, (growK n z k).length ≤ k
  | 0 => Nat.le_refl _
  | k + 1 => by
    have := growK_len n z k
    simp only [growK]
    split
    · simp; omega
    · omega

/-- The cells of a row of pairs. -/
def pairCells (K : List (Nat × Nat)) : List Value := K.flatMap fun p => [.int .i64 p.1, .int .i64 p.2]
theorem pairCells_len (K : List (Nat × Nat)) : (pairCells K).length = K.length * 2 := by
  induction K with
  | nil => rfl
  | cons p K ih => simp only [pairCells, List.flatMap_cons, List.length_append, List.length_cons, List.length_nil] at *; omega
theorem pairCells_snoc (K : List (Nat × Nat)) (p : Nat × Nat) : pairCells (K ++ [p]) = pairCells K ++ [.int .i64 p.1, .int .i64 p.2] := by simp [pairCells]

def pairv : Value := .agg #[.int .i64 0, .int .i64 0]
theorem Try.info30 : (Try.prog.info? 30).map (fun i => (i.zero, i.size, i.bytes)) = some (some pairv, 2, 16) := by kernel_rfl

/-- 'append(s, x)': one pair; x lies in a block of its own. -/
theorem wpList_app2 {w : World} {ops : Array Oper} {rest : List Oper} {o : Oper} {a : Act} {Q : Exit → Act → World → Prop} (hgd : o.guard = none) (s x : Operand)
    (ho : o.op = .call { callee := .builtin .append, args := #[s, x], argTypes := #[22, 22] })
    (v : Value) (n : Nat) (xs : List Value) (hs : a.eval s = v) (hown : w.ownsRow 0 30 2 v n xs)
    (b : Nat) (u0 u1 : Int) (hx : a.eval x = .slice (some ⟨b, 0, none⟩) 1 1) (h0 : w.cell? ⟨b, 0, none⟩ = some (.int .i64 u0)) (h1 : w.cell? ⟨b, 1, none⟩ = some (.int .i64 u1)) (hn : n + 1 ≤ 4294967296)
    (h : ∀ g cap w', w'.ownsRow 0 30 2 (.slice (some ⟨g, 0, none⟩) (n + 1) cap) (n + 1) (xs ++ [.int .i64 u0, .int .i64 u1]) → w.grownBy w' v.ownBlock → (v.ownBlock = some g ∨ w.heap.size ≤ g) →
      wpList Try.prog ops Q rest (a.put o.dst (.slice (some ⟨g, 0, none⟩) (n + 1) cap)) w') : wpList Try.prog ops Q (o :: rest) a w := by
  obtain ⟨i0, hi, hz0, hz1, hz2⟩ := info_parts Try.info30
  refine wpList_app hgd s x 22 ho 30 i0 pairv 2 16 Try.underlying22 hi hz0 hz1 hz2 rfl (by decide) v n xs hs hown ⟨b, 0, none⟩ 1 1 [.int .i64 u0, .int .i64 u1] hx rfl ?_ ?_ (by decide) (by unfold maxLen; omega) (by omega) h
  · intro j y hj
    match j, hj with
    | 0, hj => simp at hj; subst hj; exact h0
    | 1, hj => simp at hj; subst hj; exact h1
    | j + 2, hj => simp at hj
  · intro u hu
    simp at hu
    rcases hu with rfl | rfl <;> rfl

theorem grown_w (W : World) (n : Nat) (hn : n ≤ 120) (a : Option Addr) (len cap : Nat) (hlen : len ≤ 120) (z : Nat → Int × Int) (hz : PairsF W a len z) :
    Calls Try.prog 19 #[.int .i64 n, .slice a len cap] W fun e w' => ∃ pf g v, e = .returned (.tuple #[.pointer (some ⟨pf, 0, none⟩), v]) ∧ Own1 W w' pf g n (EK (growK n z len)) (fun _ => 0) ∧
      w'.ownsRow 0 30 2 v (growK n z len).length (pairCells (growK n z len)) ∧ ∀ q, v.ownBlock = some q → W.heap.size ≤ q ∧ q ≠ pf ∧ q ≠ g := by
  have HZ := Lib.hid hz; clear hz
  go_enter Try.func19, Try.ntmps19
  go_wp2_with fail
  refine (new_w n W (by omega)).mono ?_
  rintro _ w1 ⟨pf, g, rfl, h1, f1, hp, hg⟩
  have HO := Lib.hid (Own1.mk h1 f1 hp hg)
  clear h1 f1
  go_wp2
  go_loopw [8, 9] (fun v y wr => ∃ k : Nat, k ≤ len ∧ y = .int .i64 k ∧ Hid (Own1 W wr pf g n (EK (growK n z k)) (fun _ => 0)) ∧ wr.ownsRow 0 30 2 v (growK n z k).length (pairCells (growK n z k)) ∧ Hid (∀ q, v.ownBlock = some q → W.heap.size ≤ q ∧ q ≠ pf ∧ q ≠ g)) (fun _ y _ => len - (intOf y).toNat)
  case atStart => exact ⟨0, Nat.zero_le _, rfl, Lib.hid (by simp only [growK]; rw [EK_nil]; exact HO.out), World.ownsRow_nil _ _ _ _, Lib.hid (fun q e => by cases e)⟩
  case round =>
    clear HO
    obtain ⟨k, hk, rfl, HO, hown, HQ⟩ := hrel
    obtain ⟨a9, c9, rfl⟩ := ownsRow_slice hown
    by_cases hlt : k < len
    · have hKl := growK_len n z k
      have HE := Lib.hid (growK_E n z k)
      have hK : linkCode n (EK (growK n z k)) (z k).1 (z k).2 = 0 → growK n z (k + 1) = growK n z k ++ [((z k).1.toNat, (z k).2.toNat)] := fun h => by simp only [growK]; rw [if_pos h]
      have hK' : linkCode n (EK (growK n z k)) (z k).1 (z k).2 ≠ 0 → growK n z (k + 1) = growK n z k := fun h => by simp only [growK]; rw [if_neg h]
      have HK := Lib.hid hK; clear hK
      have HK' := Lib.hid hK'; clear hK'
      generalize hKe : growK n z (k + 1) = K' at *
      have HKe := Lib.hid hKe; clear hKe
      generalize growK n z k = K at *
      obtain ⟨b, off, rfl, hb, q0, q1⟩ := (HZ.out.below HO.out.below).2 k hlt
      have hkl : (k : Int) < len := by omega
      generalize hz0 : (z k).1 = z0 at *
      generalize hz1 : (z k).2 = z1 at *
      have HZ01 := Lib.hid (And.intro hz0 hz1); clear hz0 hz1
      go_wp2
      refine region_one 11 (fun w' => Own1 W w' pf g n (linkE n (EK K) z0 z1) (fun _ => 0) ∧ Fr [pf, g] wr w') (by kernel_rfl) (by kernel_rfl) (by kernel_rfl) ?_
      iterate 11 (refine gWalk_pre (by decide) (fun K hK => ?_); go_simp; refine hK _ ?_; clear hK K)
      refine gWalk_write rfl (.int .i64 (linkCode n (EK K) z0 z1)) (fun w' hw' => ?_) ?_
      · obtain ⟨nq, rfl⟩ := hw'
        go_simp
        refine (link_w (HO.out.drew nq).lm z0 z1).mono ?_
        rintro e w3 ⟨rfl, h3, f3⟩
        exact ⟨rfl, (HO.out.drew nq).next h3 f3, ((Fr.refl [pf, g] wr).drewN nq).trans' f3⟩
      refine gWalk_post (by decide) (fun K hK => ?_); go_simp; refine hK _ ?_; clear hK K
      refine gWalk_nil ?_
      rintro w3 ⟨hO3, hF3⟩
      rw [← HE.out] at hO3
      have HO3 := Lib.hid hO3; clear hO3
      have hown3 : w3.ownsRow 0 30 2 (.slice a9 K.length c9) K.length (pairCells K) := ownsRow_same hown (fun q hq => hF3.keep q (hown.lt q hq).2 (by have := HQ.out q hq; simp; omega))
      clear hown q0 q1
      have hfx := link_facts HO.out.lm (HE.out ▸ HO3.out.lm)
      clear HO
      obtain ⟨b', off', e, hb', q0, q1⟩ := (HZ.out.below HO3.out.below).2 k hlt
      simp only [Option.some.injEq, Addr.mk.injEq, and_true] at e
      obtain ⟨rfl, rfl⟩ := e
      rw [HZ01.out.1] at q0
      rw [HZ01.out.2] at q1
      have hsz := HO3.out.fr.size
      obtain ⟨hpl, hgl, _⟩ := LG.lts HO3.out.lm
      rcases hfx with ⟨f1, f2, f3⟩ | ⟨f1, f2, f3⟩
      · have hv : inV n z0 = true ∧ inV n z1 = true := by
          apply Classical.byContradiction; intro e; unfold linkCode at f1; rw [if_neg e] at f1; cases f1
        obtain ⟨x0, rfl, hx0⟩ := inV_nat hv.1
        obtain ⟨x1, rfl, hx1⟩ := inV_nat hv.2
        have HK2 := Lib.hid (HK.out f1)
        rw [f1]
        clear f1 f2 f3 HK HK' hv
        go_wp2_with (at_builtin; refine wpList_app2 rfl _ _ rfl (.slice a9 K.length c9) K.length _ rfl (hown3.alloc _) w3.heap.size x0 x1 rfl ((Blk.new w3 [.int .i64 x0, .int .i64 x1] 30).cell 0) ((Blk.new w3 [.int .i64 x0, .int .i64 x1] 30).cell 1) (by omega) ?_; intro g' cap' w4 hown4 hgrow4 hg4)
        go_roundw
        case rel =>
          have hsz4 := hgrow4.size
          simp only [World.size_alloc] at hsz4 hg4
          have hF4 : Fr (Value.slice a9 K.length c9).ownBlock.toList w3 w4 := ⟨hgrow4.os, hgrow4.tape, hgrow4.output, by omega, fun q hq hn => by
            rw [hgrow4.block q (by simp; omega) (fun e => hn (by simp [← e])), Below.heap_alloc _ _ _ hq]⟩
          refine ⟨k + 1, by omega, by go_num, Lib.hid (by rw [HKe.out]; exact ⟨LG.fr HO3.out.lm hF4 (fun hm => (HQ.out pf (by simpa using hm)).2.1 rfl) (fun hm => (HQ.out g (by simpa using hm)).2.2 rfl), HO3.out.fr.trans hF4 (fun q hq => .inr (HQ.out q (by simpa using hq)).1), HO3.out.pf, HO3.out.g⟩), ?_, Lib.hid (fun q e => ?_)⟩
          · have e2 : K' = K ++ [(x0, x1)] := HK2.out
            rw [HKe.out, e2, pairCells_snoc, List.length_append]
            exact hown4
          · simp only [Value.ownBlock, Option.some.injEq] at e
            subst e
            rcases hg4 with h | h
            · exact HQ.out _ h
            · omega
        case measure => simp [intOf]; omega
      · have HK2 := Lib.hid (HK'.out f1)
        have hb0 : (linkCode n (EK K) z0 z1 == 0) = false := beq_eq_false_iff_ne.2 f1
        clear f1 f2 f3 HK HK'
        go_wp2
        go_roundw
        case rel => exact ⟨k + 1, by omega, by go_num, Lib.hid (by rw [HKe.out]; exact HO3.out), by rw [HKe.out, HK2.out]; exact hown3, HQ⟩
        case measure => simp [intOf]; omega
    · obtain rfl : k = len := by omega
      go_wp2
      go_ret2
      exact ⟨pf, g, _, rfl, HO.out, hown, HQ.out⟩

end Go.Proofs.Ytoppjjgecgbbkaa
