/- A new window. -/
import Derived.RangeFuncBox
import Derived.RangeFuncLeaves
import Derived.Shelf.Abstract
import Derived.WalkKit
import Derived.OwnWalkIn
import Derived.TacticsInMore
import Derived.LoopNIn
import Derived.LoopIn
import Derived.Maps.AppendAt
import Derived.Test.YtgmnemndjjmgkaaGreatB13
import Derived.Test.YtgmnemndjjmgkaaGreatB5
import Derived.Ground.SlmcProg
import Derived.Shelf.SlMaps.Clone
import Derived.StillTailTactics
import Derived.Test.YtgmnemndjjmgkaaGreatB12
import Derived.Test.YtgmnemndjjmgkaaGreatB11
set_option linter.unusedSimpArgs false
set_option linter.unusedVariables false
/- The schedule: what is due. -/
namespace Go.Proofs.YtgmnemndjjmgkaaGreat
open Go.RowKit Go.Shelf
set_option maxRecDepth 10000
set_option maxHeartbeats 800000
attribute [local go_sem] Oper.semAt_some
theorem Mins.snoc {to : Int} {Q0 Q : Nat → Option Int} {pre : List Nat} (h : ∀ {ds Q'}, Mins to Q ds Q' → Mins to Q0 (pre ++ ds) Q') {i : Nat} {x : Int} (hq : Q i = some x) (hx : x ≤ to) (hm : ∀ j y, Q j = some y → ¬ (y < x ∨ (y = x ∧ j < i))) :
    ∀ {ds Q'}, Mins to (updQ Q i none) ds Q' → Mins to Q0 (pre ++ [i] ++ ds) Q' := by
 intro ds Q' hd
 rw [List.append_assoc]
 exact h (.more Q i x ds Q' hq hx hm hd)
theorem due_in (px : Nat) (now : Int) (w : World) :
    CallsIn Fence.wide 9 Tryz.prog 86 #[hptr px, .int .i64 now] w fun e w' => e = .returned (.func (.func 135) #[] #[.pointer (some ⟨w.heap.size, 0, none⟩), .pointer (some ⟨w.heap.size + 1, 0, none⟩)]) ∧ w' = (w.alloc (.cells #[hptr px] 80)).alloc (.cells #[.int .i64 now] 2) := by
 refine callsIn_of_wp Tryz.func86 rfl trivial ?_ rfl
 simp only [Tryz.ntmps86, List.size_toArray, List.length_cons, List.length_nil, Nat.reduceAdd, Nat.reduceSub, Array.replicate_succ, Array.replicate_zero, List.push_toArray, List.append_toArray, List.nil_append, List.cons_append]
 gi_wp2
 go_ret
 exact ⟨rfl, rfl⟩
theorem SchAt.one {w : World} {px slots n n' : Nat} {Q Q' : Nat → Option Int} {l l' : List Nat} (h : SchAt w px slots Q n l) (h' : SchAt w px slots Q' n' l') : n = n' := by
 obtain ⟨ph, lh, h1, ⟨e, pl, v, gp, cp, bs, hm, _⟩, _, _⟩ := h
 obtain ⟨ph', lh', h1', ⟨e', pl', v', gp', cp', bs', hm', _⟩, _, _⟩ := h'
 have e1 := h1.eq h1'
 simp only [List.cons.injEq, hptr, Value.pointer.injEq, Option.some.injEq, Addr.mk.injEq, and_true, true_and] at e1
 subst e1
 have e2 := hm.hd.eq hm'.hd
 obtain ⟨a, c, rfl⟩ := ownsRow_slice hm.items
 obtain ⟨a', c', rfl⟩ := ownsRow_slice hm'.items
 simp only [List.cons.injEq, Value.slice.injEq, true_and] at e2
 exact e2.1.2.1
open Classical in
noncomputable def schLeft (px slots : Nat) (W : World) : Nat := if h : ∃ n, ∃ Q l, SchAt W px slots Q n l then Classical.choose h else 0
theorem schLeft_eq {W : World} {px slots n : Nat} {Q : Nat → Option Int} {l : List Nat} (h : SchAt W px slots Q n l) : schLeft px slots W = n := by
 have hex : ∃ n, ∃ Q l, SchAt W px slots Q n l := ⟨n, Q, l, h⟩
 unfold schLeft
 rw [dif_pos hex]
 obtain ⟨Q', l', h'⟩ := Classical.choose_spec hex
 exact h'.one h
def DueT (px slots : Nat) (now : Int) (w0 : World) (Q : Nat → Option Int) (lx : List Nat) (ds K : List Nat) (W : World) : Prop :=
  ∃ Q' n' lx', Mins now Q ds Q' ∧ SchAt W px slots Q' n' lx' ∧ (∀ b ∈ lx', b ∉ K) ∧ (∀ b ∈ lx', b ∈ lx ∨ w0.heap.size ≤ b) ∧ Fr lx w0 W ∧ ∀ b ∈ K, w0.heap.size ≤ b
theorem due1_in (nf l Bs Bn px slots n : Nat) (now : Int) (Q : Nat → Option Int) (lx : List Nat) (w0 : World) (hnf : 2 ≤ nf) (J : List Nat → List Nat → World → Prop) (K : List Nat) (W : World) (hJ : Owned w0.heap.size J) (hF : Fr [] w0 W) (h0 : J [] K W)
    (hS : SchAt w0 px slots Q n lx) (hcs : W.cell? ⟨Bs, 0, none⟩ = some (hptr px)) (hcn : W.cell? ⟨Bn, 0, none⟩ = some (.int .i64 now)) (hBs : w0.heap.size ≤ Bs) (hBn : w0.heap.size ≤ Bn) (hKs : Bs ∉ K) (hKn : Bn ∉ K)
    (hY : ∀ pre K x W1, J pre K W1 → pre.length < n → YieldAt Fence.wide (nf - 1) Tryz.prog l #[.int .i64 (x : Nat)] W1 fun e W' => e = .returned (.bool true) ∧ goesOn J (pre ++ [x]) K W1 W') :
    CallsIn Fence.wide nf Tryz.prog 135 #[.func (.yield l) #[] #[], .pointer (some ⟨Bs, 0, none⟩), .pointer (some ⟨Bn, 0, none⟩)] W fun e W' => (∃ v, e = .returned v) ∧ ∃ xs K', J xs K' W' ∧ DueT px slots now w0 Q lx xs K' W' := by
  have HJ := Lib.hid hJ
  have hS1 := hS.fr0 hF
  have hlx := hS.lt
  have hbs := cell_lt hcs
  have hbn := cell_lt hcn
  simp only at hbs hbn
  refine callsIn_of_wp Tryz.func135 rfl trivial ?_ rfl
  simp only [Tryz.ntmps135, List.size_toArray, List.length_cons, List.length_nil, Nat.reduceAdd, Nat.reduceSub, Array.replicate_succ, Array.replicate_zero, List.push_toArray, List.append_toArray, List.nil_append, List.cons_append]
  gi_wp2
  gi_loopw [] (fun wr => ∃ pre K1 Q1 n1 lx1, J pre K1 wr ∧ pre.length + n1 = n ∧ Hid (∀ {ds Q'}, Mins now Q1 ds Q' → Mins now Q (pre ++ ds) Q') ∧ SchAt wr px slots Q1 n1 lx1 ∧ (∀ b ∈ lx1, b ∉ K1) ∧ (∀ b ∈ lx1, b ∈ lx ∨ w0.heap.size ≤ b) ∧ Fr lx w0 wr ∧ wr.cell? ⟨Bs, 0, none⟩ = some (hptr px) ∧ wr.cell? ⟨Bn, 0, none⟩ = some (.int .i64 now) ∧ Bs ∉ K1 ∧ Bn ∉ K1 ∧ Bs ∉ lx1 ∧ Bn ∉ lx1) (fun wr => schLeft px slots wr)
  case atStart =>
    exact ⟨[], K, Q, n, lx, h0, by simp, Lib.hid (fun h => h), hS1, fun b hb hm => by have := hlx b hb; have := (hJ.lt h0 b hm).1; omega, fun b hb => .inl hb, hF.mono (by simp), hcs, hcn, hKs, hKn, fun hm => by have := hlx _ hm; omega, fun hm => by have := hlx _ hm; omega⟩
  case round =>
    clear hcs hcn hKs hKn hS1 h0 hF hbs hbn
    obtain ⟨pre, K1, Q1, n1, lx1, hJ1, hlen, HMi, hS1, hk1, hl1, hF1, hcs, hcn, hbk1, hbk2, hbx1, hbx2⟩ := hrel
    have hbs := cell_lt hcs
    have hbn := cell_lt hcn
    simp only at hbs hbn
    have HS1 := Lib.hid hS1
    obtain ⟨ph, lh, hx1, hh1, hx2, rfl⟩ := hS1
    have c1 := hx1.cell 1
    simp only [List.getElem?_cons_zero, List.getElem?_cons_succ] at c1
    have HMn := Lib.hid (heap_min hh1)
    have HH := Lib.hid (And.intro hx1 (And.intro hh1 hx2))
    have HB := Lib.hid (And.intro hJ1 (And.intro hk1 (And.intro hl1 (And.intro hF1 (And.intro hbk1 (And.intro hbk2 (And.intro hbx1 hbx2)))))))
    clear hJ1 hk1 hl1 hF1 hbk1 hbk2 hbx1 hbx2 hx1 hh1 hx2
    gi_wp2_with fail
    refine ⟨trivial, fun _ => by omega, ?_⟩
    gi_at_call 136
    refine (callsIn_wide.2 HMn.out).mono ?_
    rintro r w1 ⟨f1, hr⟩
    have c1 := f1.cell c1 (by simp)
    have hcs := f1.cell hcs (by simp)
    have hcn := f1.cell hcn (by simp)
    have hs1 := f1.size
    have hbs1 : Bs < w1.heap.size := by omega
    have hbn1 : Bn < w1.heap.size := by omega
    have hpx1 := cell_lt c1
    simp only at hpx1
    have hFa : ∀ v : Value, ∀ u : Value, Fr [] wr (w1.alloc (.cells #[v, u] 136)) := fun v u => f1.alloc _
    have HFa := Lib.hid hFa; clear hFa
    have hfin : ∀ (v u : Value), Mins now Q1 [] Q1 → (∃ v, Ending.returned (Value.tuple #[]) = Ending.returned v) ∧ ∃ xs K', J xs K' (w1.alloc (.cells #[v, u] 136)) ∧ DueT px slots now w0 Q lx xs K' (w1.alloc (.cells #[v, u] 136)) := fun v u hd => by
      refine ⟨⟨_, rfl⟩, pre, K1, HJ.out.fr HB.out.1 (HFa.out v u) (by simp), Q1, n1, px :: lh, ?_, HS1.out.fr0 (HFa.out v u), HB.out.2.1, HB.out.2.2.1, HB.out.2.2.2.1.trans' ((HFa.out v u).mono (by simp)), fun b hb => (HJ.out.lt HB.out.1 b hb).1⟩
      have := HMi.out hd
      rwa [List.append_nil] at this
    have HFin := Lib.hid hfin; clear hfin
    rcases hr with ⟨hn, rfl⟩ | ⟨hn, i, k, hq, hm, rfl⟩
    · gi_wp2
      refine bodyPost_ret (results_none rfl _ _ _) rfl ?_
      refine HFin.out _ _ (.done _ fun j x hx => ?_)
      obtain ⟨ph', lh', _, ⟨e, pl, v, gp, cp, bs, _, _, _, hQ, _⟩, _, _⟩ := HS1.out
      obtain ⟨p, hp, _⟩ := (hQ j x).1 hx
      omega
    · have Hq := Lib.hid (And.intro hn (And.intro hq hm)); clear hn hq hm
      by_cases hk : now < k
      · have d1 : decide (k > now) = true := decide_eq_true hk
        gi_wp2
        refine bodyPost_ret (results_none rfl _ _ _) rfl ?_
        refine HFin.out _ _ (.done _ fun j x hx => ?_)
        have := Hq.out.2.2 j x hx
        unfold elt at this
        simp only at this
        omega
      · have d1 : decide (k > now) = false := decide_eq_false hk
        have Hk := Lib.hid hk; clear hk
        gi_wp2_with fail
        refine ⟨trivial, fun _ => by omega, ?_⟩
        gi_at_call 88
        have hFw := HFa.out (.int .i64 (i : Nat)) (.int .i64 k)
        have b2 := Blk.new w1 [.int .i64 (i : Nat), .int .i64 k] 136
        have hlh := HH.out.2.1.lt
        have HB2 := Lib.hid (And.intro hFw (And.intro b2 hlh)); clear hFw b2 hlh
        refine (callsIn_wide.2 (pop_w (HH.out.2.1.fr HB2.out.1 (by simp)))).mono ?_
        rintro r W3 (⟨hn0, _, _⟩ | ⟨_, i', k', hq', hm', rfl, l', h3, f3, k3⟩)
        · exact absurd Hq.out.1 (by omega)
        · have hik : i' = i ∧ k' = k := by
            have e1 := Hq.out.2.2 i' k' hq'
            have e2 := hm' i k Hq.out.2.1
            unfold elt at e1 e2
            simp only at e1 e2
            omega
          obtain ⟨rfl, rfl⟩ := hik
          have hbx := f3.blk HB2.out.2.1 (fun hm => by have := HB2.out.2.2 _ hm; omega)
          have hc0 := hbx.cell 0
          simp only [List.getElem?_cons_zero] at hc0
          have hfw : Fr lh wr W3 := (HB2.out.1.mono (by simp)).trans' f3
          have hnx : ∀ b ∈ K1, b ∉ lh := fun b hb hm => HB.out.2.1 b (by simp [hm]) hb
          have hJ3 := HJ.out.fr HB.out.1 hfw hnx
          have hs3 := hfw.size
          have hlt3 := HJ.out.lt HB.out.1
          have hcs3 : W3.cell? ⟨Bs, 0, none⟩ = some (hptr px) := f3.cell ((((Fr.refl [] w1).alloc _).cell hcs (by simp))) (fun hm => HB.out.2.2.2.2.2.2.1 (by simp [hm]))
          have hcn3 : W3.cell? ⟨Bn, 0, none⟩ = some (.int .i64 now) := f3.cell ((((Fr.refl [] w1).alloc _).cell hcn (by simp))) (fun hm => HB.out.2.2.2.2.2.2.2 (by simp [hm]))
          have hsch : SchAt W3 px slots (updQ Q1 i' none) (n1 - 1) (px :: l') := ⟨ph, l', hfw.blk HH.out.1 HH.out.2.2, h3, fun hm => by
            rcases k3 _ hm with h | h
            · exact HH.out.2.2 h
            · have := (HB2.out.1.blk HH.out.1 (by simp)).lt; omega, rfl⟩
          have HR := Lib.hid (And.intro hsch (And.intro hfw (And.intro k3 (And.intro hcs3 hcn3))))
          obtain ⟨fn, tmps, assign, body, hy, hRd⟩ := hY pre K1 i' W3 hJ3 (by have := Hq.out.1; omega)
          have HRd := Lib.hid hRd
          clear hsch hfw k3 hcs3 hcn3 f3 h3 hq' hm' hbx hJ3 hRd hnx hcs hcn c1 hY hlt3
          gi_wp2
          refine ⟨fun _ => by omega, ?_⟩
          refine HRd.out.mono ?_
          rintro e W4 ⟨rfl, K4, hJ4, hF4, hk4⟩
          have HJ4 := Lib.hid (And.intro hJ4 (And.intro hF4 hk4)); clear hJ4 hF4 hk4
          gi_wp2
          go_roundw
          case rel =>
            have hK1 := HJ.out.lt HB.out.1
            have hs0 := HB.out.2.2.2.1.size
            have hl3 := HR.out.1.lt
            have hnk : ∀ b ∈ px :: l', b ∉ K1 := fun b hb hm => by
              rcases List.mem_cons.1 hb with rfl | hb'
              · exact HB.out.2.1 _ (by simp) hm
              · rcases HR.out.2.2.1 b hb' with h | h
                · exact HB.out.2.1 b (by simp [h]) hm
                · have := (hK1 b hm).2; have := HB2.out.1.size; omega
            have hsub : ∀ b ∈ px :: l', b ∈ lx ∨ w0.heap.size ≤ b := fun b hb => by
              rcases List.mem_cons.1 hb with rfl | hb'
              · exact HB.out.2.2.1 _ (by simp)
              · rcases HR.out.2.2.1 b hb' with h | h
                · exact HB.out.2.2.1 b (by simp [h])
                · have := HB2.out.1.size; exact .inr (by omega)
            have hnk4 : ∀ b ∈ px :: l', b ∉ K4 := fun b hb hm => by
              rcases HJ4.out.2.2 b hm with h | h
              · exact hnk b hb h
              · have := hl3 b hb; omega
            have hnm : ∀ x, x < wr.heap.size → x ∉ K1 → x ∉ K4 := fun x hx hn hm => by
              rcases HJ4.out.2.2 x hm with h | h
              · exact hn h
              · omega
            have hnl : ∀ x, x < wr.heap.size → x ∉ px :: lh → x ∉ px :: l' := fun x hx hn hm => by
              rcases List.mem_cons.1 hm with rfl | hb'
              · exact hn (by simp)
              · rcases HR.out.2.2.1 x hb' with h | h
                · exact hn (by simp [h])
                · have := HB2.out.1.size; omega
            exact ⟨pre ++ [i'], K4, updQ Q1 i' none, n1 - 1, px :: l', HJ4.out.1, by have := Hq.out.1; simp; omega, Lib.hid (Mins.snoc HMi.out Hq.out.2.1 (by have := Hk.out; omega) (fun j y hy => by
                have := Hq.out.2.2 j y hy; unfold elt at this; simpa using this)), HR.out.1.fr HJ4.out.2.1 hnk, hnk4, hsub,
              (HB.out.2.2.2.1.trans (HR.out.2.1) (fun b hb => HB.out.2.2.1 b (by simp [hb]))).trans HJ4.out.2.1 (fun b hb => .inr (hK1 b hb).1),
              HJ4.out.2.1.cell HR.out.2.2.2.1 HB.out.2.2.2.2.1, HJ4.out.2.1.cell HR.out.2.2.2.2 HB.out.2.2.2.2.2.1, hnm Bs hbs HB.out.2.2.2.2.1, hnm Bn hbn HB.out.2.2.2.2.2.1, hnl Bs hbs HB.out.2.2.2.2.2.2.1, hnl Bn hbn HB.out.2.2.2.2.2.2.2⟩
          case measure =>
            have hK1 := HJ.out.lt HB.out.1
            have hnk : ∀ b ∈ px :: l', b ∉ K1 := fun b hb hm => by
              rcases List.mem_cons.1 hb with rfl | hb'
              · exact HB.out.2.1 _ (by simp) hm
              · rcases HR.out.2.2.1 b hb' with h | h
                · exact HB.out.2.1 b (by simp [h]) hm
                · have := (hK1 b hm).2; have := HB2.out.1.size; omega
            rw [schLeft_eq (HR.out.1.fr HJ4.out.2.1 hnk), schLeft_eq HS1.out]
            have := Hq.out.1
            omega
theorem wpListIn_app1 {F : Fence} {nf : Nat} {P : Program} {w : World} {ops : Array Oper} {rest : List Oper} {o : Oper} {a : Act} {Q : Exit → Act → World → Prop} (hgd : o.guard = none) (s x : Operand) (t : TypeId)
    (ho : o.op = .call { callee := .builtin .append, args := #[s, x], argTypes := #[t, t] })
    (e : TypeId) (z : Value) (bytes : Nat) (ht : P.underlying t = some (.slice e)) (hinfo : (P.info? e).map (fun i => (i.zero, i.size, i.bytes)) = some (some z, 1, bytes)) (hzs : z.cells.size = 1)
    (v : Value) (n : Nat) (xs : List Value) (hs : a.eval s = v) (hown : w.ownsRow 0 e 1 v n xs)
    (b : Nat) (u : Value) (hx : a.eval x = .slice (some ⟨b, 0, none⟩) 1 1) (hu : w.cell? ⟨b, 0, none⟩ = some u) (hu1 : u.oneCell' = true)
    (hn : n + 1 ≤ 4294967296) (hby : bytes ≤ 1024)
    (h : ∀ g cap w', w'.ownsRow 0 e 1 (.slice (some ⟨g, 0, none⟩) (n + 1) cap) (n + 1) (xs ++ [u]) → w.grownBy w' v.ownBlock → (v.ownBlock = some g ∨ w.heap.size ≤ g) →
      wpListIn F nf P ops Q rest (a.put o.dst (.slice (some ⟨g, 0, none⟩) (n + 1) cap)) w') : wpListIn F nf P ops Q (o :: rest) a w := by
 obtain ⟨i0, hi, hz0, hz1, hz2⟩ := info_parts hinfo
 have hb2 : (n + 1) * bytes ≤ 140737488355328 := by {
 have : (n + 1) * bytes ≤ 4294967296 * 1024 := Nat.mul_le_mul hn hby
 omega
 }
 have hne : ∀ j y, [u][j]? = some y → w.cell? ((⟨b, 0, none⟩ : Addr).add j) = some y := by {
 intro j y hj
 cases j with
 | zero => simp at hj; subst hj; exact hu
 | succ j => simp at hj
 }
 obtain ⟨g, cap, w', hr, h2, h3, h4⟩ := run_app (P := P) w t o.type e i0 z 1 bytes ht hi hz0 hz1 hz2 hzs (by decide) v n xs hown ⟨b, 0, none⟩ 1 1 [u] rfl hne (by simp [hu1]) (by decide) (by unfold maxLen; omega) hb2
 refine wpListIn_plain hgd fun K hK' => ?_
 unfold Oper.wpIn
 refine ⟨?_, ?_⟩
 · simp [Oper.about, ho, resolve, Target.leads, Sem.run_pure]
 {
 rw [Oper.semAt_plain F _ _ (by rw [ho]; intro c hc'; cases hc')]
 simp [execOp, ho, resolve, invoke, builtin, hs, hx, hr, Result.andThen]
 exact hK' _ _ (h g cap w' h2 h3 h4)
 }
def DueI (B : Nat) (pre K : List Nat) (W : World) : Prop := ∃ v, K = B :: v.ownBlock.toList ∧ Blk W B 94 [v] ∧ RowI W v pre ∧ ∀ q, v.ownBlock = some q → B < q
theorem dueI_owned (B : Nat) : Owned B (DueI B) := by
 constructor
 {
 rintro pre K S A C ⟨v, rfl, h1, h2, h3⟩ hF hS
 exact ⟨v, rfl, hF.blk h1 (hS _ (by simp)), h2.fr hF (fun q hq => hS _ (by simp [hq])), h3⟩
 }
 {
 rintro pre K A ⟨v, rfl, h1, h2, h3⟩ b hb
 simp only [List.mem_cons, Option.mem_toList] at hb
 rcases hb with rfl | hb
 · exact ⟨Nat.le_refl _, h1.lt⟩
 · exact ⟨Nat.le_of_lt (h3 b hb), h2.lt hb⟩
 }
theorem dueI_more {B : Nat} {pre K : List Nat} {W w1 : World} {x g cap : Nat} {v : Value} (hK : K = B :: v.ownBlock.toList) (h1 : Blk W B 94 [v]) (_h2 : RowI W v pre) (h3 : ∀ q, v.ownBlock = some q → B < q)
    (hown : w1.ownsRow 0 3 1 (.slice (some ⟨g, 0, none⟩) (pre.length + 1) cap) (pre.length + 1) (encN pre ++ [.int .i64 x])) (hgrow : (W.alloc (.cells #[.int .i64 x] 3)).grownBy w1 v.ownBlock) (hg : v.ownBlock = some g ∨ (W.alloc (.cells #[.int .i64 x] 3)).heap.size ≤ g) :
    Blk w1 B 94 [v] ∧ goesOn (DueI B) (pre ++ [x]) K W (w1.setCell ⟨B, 0, none⟩ (.slice (some ⟨g, 0, none⟩) (pre.length + 1) cap)) := by
 have hlt := h1.lt
 simp only [World.size_alloc] at hg
 have hF : Fr v.ownBlock.toList W w1 := ((Fr.refl _ _).alloc _).grown hgrow (fun q e => .inl (by simp [e]))
 have hb1 : Blk w1 B 94 [v] := hF.blk h1 (fun hm => by have := h3 B (by simpa using hm); omega)
 have hgB : B < g := by {
 rcases hg with e | e
 · exact h3 g e
 · omega
 }
 have e1 : (Value.slice (some ⟨g, 0, none⟩) (pre.length + 1) cap).ownBlock = some g := rfl
 subst hK
 refine ⟨hb1, B :: [g], ⟨_, by rw [e1]; rfl, hb1.set 0 _, ?_, fun q hq => by rw [e1] at hq; cases hq; exact hgB⟩, (hF.mono (by simp +contextual)).setCell _ _ (.inl (by simp)), fun b hb => ?_⟩
 {
 have : RowI w1 (.slice (some ⟨g, 0, none⟩) (pre.length + 1) cap) (pre ++ [x]) := by {
 unfold RowI encN
 unfold encN at hown
 simpa using hown
 }
 exact ownsRow_other this _ _ (by rw [e1]; simp; omega)
 }
 {
 simp only [List.mem_cons, List.not_mem_nil, or_false] at hb
 rcases hb with rfl | rfl
 · exact .inl (by simp)
 {
 rcases hg with e | e
 · exact .inl (by simp [e])
 · exact .inr (by omega)
 }
 }
theorem due_w {w : World} {px slots n : Nat} {Q : Nat → Option Int} {lx : List Nat} (h : SchAt w px slots Q n lx) (now : Int) :
    Calls Tryz.prog 44 #[hptr px, .int .i64 now] w fun e w' => ∃ v ds Q' n' lx', e = .returned v ∧ Mins now Q ds Q' ∧ SchAt w' px slots Q' n' lx' ∧ RowI w' v ds ∧ Fr lx w w' ∧ (∀ b ∈ lx', b ∈ lx ∨ w.heap.size ≤ b) ∧ (∀ q, v.ownBlock = some q → w.heap.size ≤ q ∧ q ∉ lx') := by
 refine (callsIn_wide (n := 9)).1 ?_
 refine callsIn_of_wp_marks Tryz.func44 rfl trivial ?_ rfl
 simp only [Tryz.ntmps44, List.size_toArray, List.length_cons, List.length_nil, Nat.reduceAdd, Nat.reduceSub, Array.replicate_succ, Array.replicate_zero, List.push_toArray, List.append_toArray, List.nil_append, List.cons_append]
 have HS := Lib.hid h; clear h
 gi_wp2_with fail
 refine ⟨trivial, ?_⟩
 gi_at_call 85
 refine (callsIn_wide.2 (xvalid_w HS.out)).mono ?_
 rintro _ w ⟨rfl, rfl⟩
 gi_wp2_with fail
 refine ⟨trivial, ?_⟩
 gi_at_call 86
 refine (callsIn_wide.2 (callsIn_wide.1 (due_in px now _))).mono ?_
 rintro _ _ ⟨rfl, rfl⟩
 have hs1 : (w.alloc (Obj.cells #[Value.slice none 0 0] 94)).heap.size = w.heap.size + 1 := by simp
 gi_wp2_with fail
 have b0 := Blk.new w [.slice none 0 0] 94
 have b1 := Blk.new (w.alloc (.cells #[.slice none 0 0] 94)) [hptr px] 80
 have b2 := Blk.new ((w.alloc (.cells #[.slice none 0 0] 94)).alloc (.cells #[hptr px] 80)) [.int .i64 now] 2
 simp only [World.size_alloc] at b1 b2
 have hF0 : Fr [] w (((w.alloc (.cells #[.slice none 0 0] 94)).alloc (.cells #[hptr px] 80)).alloc (.cells #[.int .i64 now] 2)) := (((Fr.refl _ _).alloc _).alloc _).alloc _
 have hb0 := (b0.alloc (.cells #[hptr px] 80)).alloc (.cells #[.int .i64 now] 2)
 have hb1 := b1.alloc (.cells #[.int .i64 now] 2)
 have hsz : (((w.alloc (.cells #[.slice none 0 0] 94)).alloc (.cells #[hptr px] 80)).alloc (.cells #[.int .i64 now] 2)).heap.size = w.heap.size + 3 := by simp
 clear b0 b1
 generalize (((w.alloc (.cells #[.slice none 0 0] 94)).alloc (.cells #[hptr px] 80)).alloc (.cells #[.int .i64 now] 2)) = W0 at *
 have hle : n ≤ 65536 := by {
 obtain ⟨ph, lh, _, hh, _, _⟩ := HS.out
 have := hh.le
 omega
 }
 refine rfun_goes (α := Nat) rfl (by decide) (gf := 135) (lb := #[.pointer (some ⟨w.heap.size + 1, 0, none⟩), .pointer (some ⟨w.heap.size + 1 + 1, 0, none⟩)]) rfl trivial (enters_of Tryz.func135 (by kernel_rfl) rfl)
   (encs := fun x => #[.int .i64 (x : Nat)]) (fun _ => rfl) (base := w.heap.size) (N := n) (by omega) (T := DueT px slots now w Q lx) ?hT (DueI w.heap.size) (dueI_owned w.heap.size) [w.heap.size] ⟨_, rfl, hb0, RowI.nil _, fun q hq => by cases hq⟩
   (fun l J K W hJ hF h0 hK hY => due1_in 8 l (w.heap.size + 1) (w.heap.size + 1 + 1) px slots n now Q lx w (by decide) J K W hJ (hF0.trans' hF) h0 HS.out (hF.cell (hb1.cell 0) (by simp)) (hF.cell (b2.cell 0) (by simp)) (by omega) (by omega)
     (fun hm => by have := hK _ hm; simp at this; omega) (fun hm => by have := hK _ hm; simp at this; omega) hY)
   (fun x => { tmps := #[hptr px, .int .i64 now, undef, undef, .slice none 0 0, .pointer (some ⟨w.heap.size, 0, none⟩), .int .i64 (x : Nat), hptr px, .bool true, .bool false, hptr px, .int .i64 now, .func (.func 135) #[] #[.pointer (some ⟨w.heap.size + 1, 0, none⟩), .pointer (some ⟨w.heap.size + 1 + 1, 0, none⟩)], .int .i64 (x : Nat), undef, undef, undef, undef, undef], defers := [] }) ?assign ?body ?done
 case hT =>
  rintro xs K A B ⟨Q', n', lx', h1, h2, h3, h4, h5, h6⟩ hF
  exact ⟨Q', n', lx', h1, h2.fr hF h3, h3, h4, h5.trans hF (fun b hb => .inr (h6 b hb)), h6⟩
 case assign =>
  intro l x W K hK
  gi_wp2
  exact hK
 case body =>
  rintro l pre K x W ⟨v, rfl, hv, hrow, hq⟩ hlt
  have hc := hv.cell 0
  simp only [List.getElem?_cons_zero] at hc
  obtain ⟨a0, c0, rfl⟩ := ownsRow_slice hrow
  gi_wp2_with (gi_at_builtin; go_loud (refine wpListIn_app1 rfl _ _ _ rfl 3 (.int .i64 0) 8 Tryz.underlying94 Tryz.info3 rfl (.slice a0 pre.length c0) pre.length (encN pre) rfl (hrow.alloc _) W.heap.size (.int .i64 x) rfl (cell_new1 _ _ _ _ rfl) rfl (by omega) (by decide) ?_; intro g cap w1 hown hgrow hg; obtain ⟨hb1, hgo⟩ := dueI_more rfl hv hrow hq hown hgrow hg; have hc1 := hb1.cell 0; have hf1 := hb1.frozen 0; simp only [List.getElem?_cons_zero] at hc1))
 case done =>
  rintro D xs K K' W hD ⟨v, rfl, hv, hrow, hq⟩ ⟨Q', n', lx', h1, h2, h3, h4, h5, h6⟩ hDK hDK' hKK hd
  have hc := hv.cell 0
  simp only [List.getElem?_cons_zero] at hc
  obtain ⟨a0, c0, rfl⟩ := ownsRow_slice hrow
  gi_wp2
  refine ⟨by simp, .inl ⟨_, _, rfl, run_takeDeferred hd, ?_⟩⟩
  have hF : Fr [D] W (W.putObj D (.deferred none)) := (Fr.refl _ _).putObj _ _ (.inl (by simp))
  refine ⟨.slice a0 xs.length c0, ?_, .slice a0 xs.length c0, xs, Q', n', lx', rfl, h1, h2.fr hF (fun b hb hm => h3 b hb (by rw [show b = D by simpa using hm]; exact hDK)), hrow.fr hF (fun q hq hm => hDK' (by rw [← show q = D by simpa using hm]; simp [hq])), h5.trans hF (fun b hb => .inr (by rw [show b = D by simpa using hb]; omega)), h4, fun q e => ⟨Nat.le_of_lt (hq q e), fun hm => h3 q hm (hKK q (by simp [e]))⟩⟩
  simp [results, Tryz.results44, go_sem]
end Go.Proofs.YtgmnemndjjmgkaaGreat
namespace Go.Proofs.YtgmnemndjjmgkaaGreat
open Go.RowKit
set_option maxRecDepth 10000
set_option maxHeartbeats 800000
section
variable {w w' : World} {pw pc ps px pf : Nat} {P : Wp} {Ks lx Lf K : List Nat} {cl : Nat → Nat}
theorem wtick_no (h : WinB w pw pc ps px pf P Ks lx Lf cl) (to : Int) (h1 : -9223372036854775808 ≤ to) (h2 : to ≤ 9223372036854775807) (hc : chkT P.m P.now to ≠ 0) :
    Calls Tryz.prog 17 #[wptr pw, .int .i64 to] w fun e w' => e = .returned (.int .i64 (chkT P.m P.now to)) ∧ w' = w := by
 have HV := Lib.hid (wvalid_w h)
 have HA := Lib.hid (cadv_no h.clk to h1 h2 hc)
 have c4 := h.hd.cell 4
 simp only [List.getElem?_cons_zero, List.getElem?_cons_succ] at c4
 clear h
 generalize chkT P.m P.now to = cc at *
 have d1 : (cc != 0) = true := by simp [hc]
 clear hc
 go_enter Tryz.func17, Tryz.ntmps17
 go_wp2_with fail
 refine HV.out.mono ?_
 rintro _ w ⟨rfl, rfl⟩
 go_wp2_with fail
 refine HA.out.mono ?_
 rintro _ w ⟨rfl, rfl⟩
 go_wp2
 go_ret
 exact ⟨rfl, rfl⟩
def TI (w : World) (K : List Nat) (pw pc ps px pf : Nat) (P : Wp) (lx' : List Nat) (v : Value) (ds : List Nat) (to : Int) (SE : Sm) (GE : Nat → Option (Nat × Nat × Int)) (gE : Nat) (k : Nat) (wr : World) : Prop :=
  ∃ s1 Q1 Q' G1 g1 Ks1 Lf1 cl1, WinB wr pw pc ps px pf { P with s := s1, G := G1, gone := g1 } Ks1 lx' Lf1 cl1 ∧ RowI wr v ds ∧ (∀ q, v.ownBlock = some q → q ∉ winK pw pc Ks1 lx' Lf1) ∧ Fr K w wr ∧ (∀ q ∈ winK pw pc Ks1 lx' Lf1, q ∈ K ∨ w.heap.size ≤ q) ∧
    Lk s1 Q1 G1 ∧ s1.Ok ∧ Mins to Q1 (ds.drop k) Q' ∧ s1.rems (ds.drop k) = SE ∧ (fun j => if j ∈ ds.drop k then none else G1 j) = GE ∧ g1 + (ds.drop k).length = gE
theorem drop_at {α : Type} {l : List α} {k : Nat} (h : k < l.length) : l.drop k = l[k] :: l.drop (k + 1) := List.drop_eq_getElem_cons h
theorem wtick_yes (h : WinB w pw pc ps px pf P Ks lx Lf cl) (hl : Lk P.s P.Q P.G) (hok : P.s.Ok) (to : Int) (h1 : -9223372036854775808 ≤ to) (h2 : to ≤ 9223372036854775807) (hc : chkT P.m P.now to = 0) (hg : P.gone + P.s.L.length ≤ 9223372036854775807) :
    Calls Tryz.prog 17 #[wptr pw, .int .i64 to] w fun e w' => e = .returned (.int .i64 0) ∧ ∃ ds Q' n' Ks' lx' Lf' cl', Mins to P.Q ds Q' ∧
      WinB w' pw pc ps px pf { P with now := to, s := P.s.rems ds, Q := Q', nq := n', G := fun j => if j ∈ ds then none else P.G j, gone := P.gone + ds.length } Ks' lx' Lf' cl' ∧ Fr (winK pw pc Ks lx Lf) w w' ∧ ∀ q ∈ winK pw pc Ks' lx' Lf', q ∈ winK pw pc Ks lx Lf ∨ w.heap.size ≤ q := by
 have HV := Lib.hid (wvalid_w h)
 have HA := Lib.hid (cadv_yes h.clk to h1 h2 hc)
 have HB := Lib.hid h
 have c4 := h.hd.cell 4
 simp only [List.getElem?_cons_zero, List.getElem?_cons_succ] at c4
 have HL := Lib.hid (And.intro hl (And.intro hok hg))
 clear h hc hl hok hg h1 h2
 go_enter Tryz.func17, Tryz.ntmps17
 go_wp2_with fail
 refine HV.out.mono ?_
 rintro _ w ⟨rfl, rfl⟩
 go_wp2_with fail
 refine HA.out.mono ?_
 rintro _ w1 ⟨rfl, k1, k2⟩
 have hB1 := HB.out.setClk k1 k2
 have HD := Lib.hid (due_w hB1.sch to)
 have c6 := hB1.hd.cell 6
 simp only [List.getElem?_cons_zero, List.getElem?_cons_succ] at c6
 have H1 := Lib.hid (And.intro hB1 k2)
 clear k1 k2 hB1 HV HA c4
 go_wp2_with fail
 refine HD.out.mono ?_
 rintro _ w2 ⟨v, ds, Q', n', lx', rfl, hm, hs2, hr2, hF2, hn2, hv2⟩
 obtain ⟨cl2, hB2⟩ := H1.out.1.setSch hs2 hF2 hn2
 obtain ⟨av, cv, rfl⟩ := hr2.slice
 have hsz := H1.out.2.size
 obtain ⟨k1, k2, k3, k4⟩ := hm.law HL.out.1 HL.out.2.1
 have hT : TI w (winK pw pc Ks lx Lf) pw pc ps px pf { P with now := to, Q := Q', nq := n' } lx' (.slice av ds.length cv) ds to (P.s.rems ds) (fun j => if j ∈ ds then none else P.G j) (P.gone + ds.length) 0 w2 := by {
 refine ⟨P.s, P.Q, Q', P.G, P.gone, Ks, Lf, cl2, hB2, hr2, fun q hq => ?_, (H1.out.2.mono (by simp [winK])).trans hF2 (fun b hb => .inl (by simp [winK, hb])), fun q hq => ?_, HL.out.1, HL.out.2.1, by simpa using hm, by simp, by simp, by simp⟩
 {
 obtain ⟨e1, e2⟩ := hv2 q hq
 intro hmem
 simp only [winK, List.mem_cons, List.mem_append] at hmem
 have hlt := H1.out.1.lt
 rcases hmem with hmem | hmem | hmem | hmem | hmem
 · have := hlt q (by simp [winK, hmem]); omega
 · have := hlt q (by simp [winK, hmem]); omega
 · have := hlt q (by simp [winK, hmem]); omega
 · exact e2 hmem
 · have := hlt q (by simp [winK, hmem]); omega
 }
 {
 simp only [winK, List.mem_cons, List.mem_append] at hq ⊢
 rcases hq with e | e | e | e | e
 · simp [e]
 · simp [e]
 · simp [e]
 {
 rcases hn2 q e with e | e
 · simp [e]
 · exact .inr (by omega)
 }
 · simp [e]
 }
 }
 have HT := Lib.hid hT
 have hdl : P.gone + ds.length ≤ 9223372036854775807 := by have := HL.out.2.2; omega
 have hdn : (ds.length : Int) ≤ 9223372036854775807 := by omega
 have Hm := Lib.hid hm
 have HN := Lib.hid (show n' = n' from rfl)
 clear hT hm hs2 hr2 hF2 hn2 hv2 hB2 k1 k2 k3 k4 hsz HD c6 H1 HL
 generalize hSE : P.s.rems ds = SE at *
 generalize hGE : (fun j => if j ∈ ds then none else P.G j) = GE at *
 generalize hgE : P.gone + ds.length = gE at *
 have HEQ := Lib.hid (And.intro hSE (And.intro hGE hgE))
 clear hSE hGE hgE
 go_wp2_with fail
 go_loopw [27] (fun x wr => ∃ k : Nat, k ≤ ds.length ∧ x = .int .i64 k ∧ Hid (TI w (winK pw pc Ks lx Lf) pw pc ps px pf { P with now := to, Q := Q', nq := n' } lx' (.slice av ds.length cv) ds to SE GE gE k wr)) (fun x _ => ds.length - (intOf x).toNat)
 case atStart => exact ⟨0, Nat.zero_le _, rfl, HT⟩
 case round =>
  obtain ⟨k, hk, rfl, HI⟩ := hrel
  clear HT
  by_cases hkl : k < ds.length
  {
  have hki : (k : Int) < ds.length := by omega
  obtain ⟨s1, Q1, Q2, G1, g1, Ks1, Lf1, cl1, hB, hrow, hvq, hF, hnw, hlk, hsok, hmin, hSE, hGE, hgE⟩ := HI.out
  obtain ⟨i, hi⟩ : ∃ i, i = ds[k] := ⟨_, rfl⟩
  rw [drop_at hkl, ← hi] at hmin hSE hGE hgE
  obtain ⟨bv, cv', ev, _, hat⟩ := hrow.at hkl
  rw [← hi] at hat
  simp only [Value.slice.injEq, true_and] at ev
  obtain ⟨rfl, rfl⟩ := ev
  have c7 := hB.hd.cell 7
  simp only [List.getElem?_cons_zero, List.getElem?_cons_succ] at c7
  cases hmin with
  | more _ _ x _ _ hq hx hmn hrest =>
  obtain ⟨e1, e2⟩ := pop_min hlk hsok hq hmn
  have hE := fa_exp hB.fo
  simp only at hE
  have HX := Lib.hid (And.intro hB (And.intro hrow (And.intro hvq (And.intro hF (And.intro hnw (And.intro hlk (And.intro hsok (And.intro hrest (And.intro hSE (And.intro hGE (And.intro hgE (And.intro e2 hq))))))))))))
  have HE := Lib.hid hE
  clear hB hrow hvq hF hnw hlk hsok hrest hSE hGE hgE e2 hq hE hmn e1 hi
  generalize (fstG G1).getD 0 = i0 at *
  generalize (fstG G1).isSome = b0 at *
  go_wp2_with fail
  refine HE.out.mono ?_
  rintro _ w3 ⟨rfl, Lf2, hf3, hF3, hn3⟩
  obtain ⟨cl3, hB3⟩ := HX.out.1.setFo hf3 hF3 hn3
  have HR := Lib.hid (st_rem_yes hB3.st i (lk_used HX.out.2.2.2.2.2.1 HX.out.2.2.2.2.2.2.1 HX.out.2.2.2.2.2.2.2.2.2.2.2.2))
  have c5 := hB3.hd.cell 5
  simp only [List.getElem?_cons_zero, List.getElem?_cons_succ] at c5
  have H3 := Lib.hid (And.intro hB3 (And.intro hF3 hn3))
  clear hB3 hF3 hn3 hf3 HE c7
  go_wp2_with fail
  refine HR.out.mono ?_
  rintro _ w4 ⟨rfl, Ks2, hs4, hF4, hn4⟩
  obtain ⟨cl4, hB4⟩ := H3.out.1.setSt hs4 hF4 hn4
  have c9 := hB4.hd.cell 9
  have z9 := hB4.hd.frozen 9
  simp only [List.getElem?_cons_zero, List.getElem?_cons_succ] at c9
  have H4 := Lib.hid (And.intro hB4 (And.intro hF4 hn4))
  have hg1 : g1 + 1 ≤ 9223372036854775807 := by have := HX.out.2.2.2.2.2.2.2.2.2.2.1; simp at this; omega
  have hw1 : IntKind.u64.wrap ((g1 : Int) + 1) = (g1 : Int) + 1 := by simp [IntKind.wrap, IntKind.bits, IntKind.signed]; omega
  clear hB4 hF4 hn4 hs4 HR c5
  go_wp2_with fail
  go_roundw
  case rel =>
   refine ⟨k + 1, by omega, by go_num, Lib.hid ?_⟩
   have hb5 := H4.out.1.hd.set 9 (.int .u64 ((g1 : Int) + 1))
   simp only [List.set_cons_zero, List.set_cons_succ] at hb5
   have hF5 : Fr [pw] w4 (w4.setCell ⟨pw, 9, none⟩ (.int .u64 ((g1 : Int) + 1))) := (Fr.refl _ _).setCell _ _ (.inl (by simp))
   have hB5 := H4.out.1.setN hF5 (a := P.added) (g := g1 + 1) (by rw [Int.natCast_add]; exact hb5)
   obtain ⟨hB, hrow, hvq, hF, hnw, hlk, hsok, hrest, hSE, hGE, hgE, e2, hq⟩ := HX.out
   obtain ⟨hB3, hF3, hn3⟩ := H3.out
   obtain ⟨hB4, hF4, hn4⟩ := H4.out
   have hs3 := hF3.size
   have hs4 := hF4.size
   have hsw := hF.size
   have hsub : ∀ q ∈ winK pw pc Ks2 lx' Lf2, q ∈ winK pw pc Ks1 lx' Lf1 ∨ q ∉ winK pw pc Ks1 lx' Lf1 ∧ w.heap.size ≤ q ∧ ∀ u, (Value.slice (some ⟨bv, 0, none⟩) ds.length cv).ownBlock = some u → u < q := by {
   intro q hq
   by_cases hin : q ∈ winK pw pc Ks1 lx' Lf1
   · exact .inl hin
   {
   refine .inr ⟨hin, ?_⟩
   simp only [winK, List.mem_cons, List.mem_append] at hq hin
   rcases hq with e | e | e | e | e
   · exact absurd (.inl e) hin
   · exact absurd (.inr (.inl e)) hin
   {
   rcases hn4 q e with e | e
   · exact absurd (.inr (.inr (.inl e))) hin
   · exact ⟨by omega, fun u hu => by have := hrow.lt hu; omega⟩
   }
   · exact absurd (.inr (.inr (.inr (.inl e)))) hin
   {
   rcases hn3 q e with e | e
   · exact absurd (.inr (.inr (.inr (.inr e)))) hin
   · exact ⟨by omega, fun u hu => by have := hrow.lt hu; omega⟩
   }
   }
   }
   have hin : ∀ q, q ∈ Ks1 ∨ q ∈ Lf1 ∨ q = pw → q ∈ winK pw pc Ks1 lx' Lf1 := fun q hq => by
     simp only [winK, List.mem_cons, List.mem_append]
     rcases hq with h | h | h <;> simp [h]
   have hFall : Fr (winK pw pc Ks lx Lf) w (w4.setCell ⟨pw, 9, none⟩ (.int .u64 ((g1 : Int) + 1))) :=
     ((hF.trans hF3 (fun b hb => hnw b (hin b (.inr (.inl hb))))).trans hF4 (fun b hb => hnw b (hin b (.inl hb)))).trans hF5 (fun b hb => by
       have e : b = pw := by simpa using hb
       exact hnw b (hin b (.inr (.inr e))))
   rw [e2] at hB5
   refine ⟨s1.rem i, _, Q2, _, g1 + 1, Ks2, Lf2, cl4, hB5, ((hrow.fr hF3 (fun q hq hm => hvq q hq (hin q (.inr (.inl hm))))).fr hF4 (fun q hq hm => hvq q hq (hin q (.inl hm)))).fr hF5 (fun q hq hm => hvq q hq (hin q (.inr (.inr (by simpa using hm))))), fun q hq hm => ?_, hFall, fun q hq => ?_, hlk.drop hsok i, Sm.ok_rem hsok (lk_used hlk hsok ‹_›), hrest, hSE, ?_, ?_⟩
   {
   rcases hsub q hm with h | ⟨_, _, h⟩
   · exact hvq q hq h
   · have := h q hq; omega
   }
   {
   rcases hsub q hq with h | ⟨_, h, _⟩
   · exact hnw q h
   · exact .inr h
   }
   {
   rw [← hGE]
   funext j
   by_cases e : j = i
   · subst e; simp
   · by_cases e2 : j ∈ ds.drop (k + 1) <;> simp [e, e2]
   }
   · simp only [List.length_cons] at hgE; omega
  case measure => simp [intOf]; omega
  }
  {
  obtain rfl : k = ds.length := by omega
  go_wp2_with fail
  go_ret
  obtain ⟨s1, Q1, Q2, G1, g1, Ks1, Lf1, cl1, hB, hrow, hvq, hF, hnw, hlk, hsok, hmin, hSE, hGE, hgE⟩ := HI.out
  rw [List.drop_eq_nil_of_le (Nat.le_refl _)] at hSE hGE hgE
  have e1 : s1 = SE := hSE
  have e2 : G1 = GE := by rw [← hGE]; funext j; simp
  have e3 : g1 = gE := by simpa using hgE
  refine ⟨rfl, ds, Q', n', Ks1, lx', Lf1, cl1, Hm.out, ?_, hF, hnw⟩
  rw [HEQ.out.1, HEQ.out.2.1, HEQ.out.2.2, ← e1, ← e2, ← e3]
  exact hB
  }
end
set_option maxHeartbeats 1600000
def Tryz.laysCloneMS_ren : Go.Shelf.Ren := ⟨fun | 5 => 104 | 7 => 149 | n => n, fun | 23 => 142 | 25 => 26 | 3 => 94 | 4 => 4 | 20 => 20 | n => n, fun | n => n⟩
theorem Tryz.laysCloneMS : Go.Proofs.SlLaysW.n5 Tryz.prog Tryz.laysCloneMS_ren := {
  mixed := by kernel_rfl
  f5 := ⟨Tryz.f104.name, by decide, Tryz.func104.trans (congrArg some (by kernel_rfl))⟩
  f7 := Tryz.func149.trans (congrArg some (by kernel_rfl))
  t4 := Tryz.underlying4
  a4 := Tryz.isAgg4
  z4 := Tryz.sizeOf4
  v4 := Tryz.zeroValue4
  t20 := Tryz.underlying20
  a20 := Tryz.isAgg20
  z20 := Tryz.sizeOf20
  v20 := Tryz.zeroValue20
  t23 := Tryz.underlying142
  a23 := Tryz.isAgg142
  z23 := Tryz.sizeOf142
  v23 := Tryz.zeroValue142 }
def Tryz.laysCloneL_ren : Go.Shelf.Ren := ⟨fun | 41 => 103 | n => n, fun | 22 => 37 | 23 => 45 | 4 => 4 | n => n, fun | n => n⟩
theorem Tryz.laysCloneL : Go.Proofs.SlLaysE0.n41 Tryz.prog Tryz.laysCloneL_ren := {
  mixed := by kernel_rfl
  f41 := ⟨Tryz.f103.name, by decide, Tryz.func103.trans (congrArg some (by kernel_rfl))⟩
  t4 := Tryz.underlying4
  a4 := Tryz.isAgg4
  z4 := Tryz.sizeOf4
  v4 := Tryz.zeroValue4
  t22 := Tryz.underlying37
  a22 := Tryz.isAgg37
  z22 := Tryz.sizeOf37
  v22 := Tryz.zeroValue37 }
theorem clone_live {w : World} {v : Value} {l : List Lv} (h : RowV w v l) (hp : l.length ≤ 16384) :
    Calls Tryz.prog 103 #[v] w fun e w' => ∃ v', e = .returned v' ∧ RowV w' v' l ∧ (∀ q, v'.ownBlock = some q → w.heap.size ≤ q) ∧ Fr [] w w' := by
 obtain ⟨i0, hi, hz0, hz1, hz2⟩ := info_parts Tryz.info45
 rcases h.2 with ⟨rfl, h0⟩ | ⟨g, cap, cur, e, hg, hcur, hnc, hcm, hcs, htk⟩
 {
 have hn : l = [] := List.length_eq_zero_iff.1 (by simpa using h0)
 subst hn
 refine (AnyE.slices_Clone_nil Tryz.laysCloneL 0 0 w).mono ?_
 rintro _ _ ⟨rfl, rfl⟩
 exact ⟨_, rfl, h, fun q e => (by cases e), Fr.refl _ _⟩
 }
 {
 subst e
 refine (AnyE.slices_Clone Tryz.laysCloneL i0 lvZero 7 56 hi hz0 hz1 hz2 rfl (by decide) Tryz.sizeOf45 g 0 l.length cap (rowV l) w (by rw [rowV_len]) (by unfold maxLen; omega) (by omega) (fun j u hj => ?_) (rowV_one l)).mono ?_
 {
 have hjl : j < l.length * 7 := by have := (List.getElem?_eq_some_iff.1 hj).1; rwa [rowV_len] at this
 rw [← htk, List.getElem?_take, if_pos hjl] at hj
 simp [World.cell?, hcur] at hj ⊢
 exact hj
 }
 {
 rintro _ w' ⟨v', rfl, h1, _, hB⟩
 exact ⟨v', rfl, ownsRow_to0 h1, ownsRow_new h1, Fr.of_below hB⟩
 }
 }
theorem smap_clone {w : World} {mb n : Nat} {m : Int → Option Value} (h : IMap Tryz.prog 26 .u64 okS w mb m n) :
    Calls Tryz.prog 104 #[.map (some mb)] w fun e w' => e = .returned (.map (some w.heap.size)) ∧ IMap Tryz.prog 26 .u64 okS w' w.heap.size m n ∧ Fr [] w w' := by
 obtain ⟨D, h1, h2, h3, h4⟩ := h
 refine (AnyW.maps_Clone_owns Tryz.laysCloneMS 26 (tokR okS) mb n D w h1).mono ?_
 rintro _ w' ⟨rfl, k1, _, hB⟩
 exact ⟨rfl, ⟨D, k1, h2, h3, h4⟩, Fr.of_below hB⟩
structure CI (w : World) (B mc : Nat) (iv iv' : Int → Option Value) (f : Nat → List Nat) (n : Nat) (dn : List Int) (lc : List Nat) : Prop where
  im : IMap Tryz.prog 26 .u64 okS w mc iv' n
  ge : ∀ q ∈ lc, B ≤ q
  lt : ∀ q ∈ lc, q < w.heap.size
  nm : mc ∉ lc
  row : ∀ id : Nat, id < U64 → (id : Int) ∈ dn → ((iv' id).isSome = true ∧ (iv id).isSome = true) ∧ RowI w ((iv' id).getD nilS) (f id) ∧ ∀ q, ((iv' id).getD nilS).ownBlock = some q → q ∈ lc
  old : ∀ id : Nat, id < U64 → (id : Int) ∉ dn → iv' id = iv id
  inj : ∀ (id id' q : Nat), id < U64 → id' < U64 → (id : Int) ∈ dn → (id' : Int) ∈ dn → ((iv' id).getD nilS).ownBlock = some q → ((iv' id').getD nilS).ownBlock = some q → id = id'
section
variable {w w' w1 w2 : World} {B mc n : Nat} {iv iv' : Int → Option Value} {f : Nat → List Nat} {dn : List Int} {lc S : List Nat}
theorem CI.fr (h : CI w B mc iv iv' f n dn lc) (hf : Fr S w w') (h1 : mc ∉ S) (h2 : ∀ q ∈ lc, q ∉ S) : CI w' B mc iv iv' f n dn lc :=
  ⟨h.im.same (hf.keep mc h.im.lt h1), h.ge, fun q hq => Nat.lt_of_lt_of_le (h.lt q hq) hf.size, h.nm, fun id hid hd => ⟨(h.row id hid hd).1, (h.row id hid hd).2.1.fr hf (fun q hq => h2 q ((h.row id hid hd).2.2 q hq)), (h.row id hid hd).2.2⟩, h.old, h.inj⟩
theorem CI.start (h : IMap Tryz.prog 26 .u64 okS w mc iv n) : CI w B mc iv iv f n [] [] :=
  ⟨h, by simp, by simp, by simp, fun _ _ h => by simp at h, fun _ _ _ => rfl, fun _ _ _ _ _ h => by simp at h⟩
theorem CI.put (h : CI w B mc iv iv' f n dn lc) {id : Nat} (hid : id < U64) (hs : (iv id).isSome = true) (hd : (id : Int) ∉ dn) {v1 : Value} (hr : RowI w1 v1 (f id)) (hq : ∀ q, v1.ownBlock = some q → w.heap.size ≤ q) (hB : B ≤ w.heap.size)
    (hF : Fr [] w w1) (hI : IMap Tryz.prog 26 .u64 okS w2 mc (updM iv' id (some v1)) (if (iv' id).isSome = true then n else n + 1)) (hF2 : Fr [mc] w1 w2) : CI w2 B mc iv (updM iv' id (some v1)) f n (dn ++ [(id : Int)]) (lc ++ v1.ownBlock.toList) := by
 have hml := h.im.lt
 have hs1 := hF.size
 have hs2 := hF2.size
 rw [h.old id hid hd, if_pos hs] at hI
 have hm1 : ∀ q, v1.ownBlock = some q → q ≠ mc := fun q hqq e => by have := hq q hqq; omega
 refine ⟨hI, fun q hqm => ?_, fun q hqm => ?_, fun hm => ?_, fun x hx hxd => ?_, fun x hx hxd => ?_, fun x y q hx hy hxd hyd hxq hyq => ?_⟩
 {
 rcases List.mem_append.1 hqm with e | e
 · exact h.ge q e
 · have := hq q (by simpa using e); omega
 }
 {
 rcases List.mem_append.1 hqm with e | e
 · have := h.lt q e; omega
 · have := hr.lt (q := q) (by simpa using e); omega
 }
 {
 rcases List.mem_append.1 hm with e | e
 · exact h.nm e
 · exact hm1 mc (by simpa using e) rfl
 }
 {
 by_cases e : x = id
 {
 subst e
 rw [updM_same]
 exact ⟨⟨rfl, hs⟩, hr.fr hF2 (fun q hqq hm => hm1 q hqq (by simpa using hm)), fun q hqq => List.mem_append.2 (.inr (by simpa using hqq))⟩
 }
 {
 rw [updM_other (by omega)]
 have hxd' : (x : Int) ∈ dn := by {
 rcases List.mem_append.1 hxd with e1 | e1
 · exact e1
 · simp at e1; omega
 }
 obtain ⟨a1, a2, a3⟩ := h.row x hx hxd'
 exact ⟨a1, (a2.fr hF (by simp)).fr hF2 (fun q hqq hm => h.nm (by have := a3 q hqq; rw [List.mem_singleton] at hm; rwa [hm] at this)), fun q hqq => List.mem_append.2 (.inl (a3 q hqq))⟩
 }
 }
 {
 have e : x ≠ id := fun e => hxd (by simp [e])
 rw [updM_other (by omega)]
 exact h.old x hx (fun hm => hxd (by simp [hm]))
 }
 {
 have hin : ∀ y : Nat, y ≠ id → (y : Int) ∈ dn ++ [(id : Int)] → (y : Int) ∈ dn := fun y hy hm => by
   rcases List.mem_append.1 hm with e1 | e1
   · exact e1
   · simp at e1; omega
 by_cases ex : x = id
 {
 by_cases ey : y = id
 · rw [ex, ey]
 {
 subst ex
 rw [updM_same] at hxq
 rw [updM_other (by omega)] at hyq
 have h1 := hq q hxq
 have h2 := h.lt q ((h.row y hy (hin y ey hyd)).2.2 q hyq)
 omega
 }
 }
 {
 rw [updM_other (by omega)] at hxq
 by_cases ey : y = id
 {
 subst ey
 rw [updM_same] at hyq
 have h1 := hq q hyq
 have h2 := h.lt q ((h.row x hx (hin x ex hxd)).2.2 q hxq)
 omega
 }
 {
 rw [updM_other (by omega)] at hyq
 exact h.inj x y q hx hy (hin x ex hxd) (hin y ey hyd) hxq hyq
 }
 }
 }
theorem CI.all (h : CI w B mc iv iv' f n dn lc) {w0 : World} {mb : Nat} {lb : List Nat} (h0 : IncI w0 mb iv f n lb) (hall : ∀ x, (Lit.int .u64 x).wf = true → (iv x).isSome = true → x ∈ dn) : IncI w mc iv' f n lc := by
 have hno : ∀ id : Nat, id < U64 → (id : Int) ∉ dn → iv' id = none ∧ f id = [] := fun id hid hd => by
   have h1 : (iv id).isSome = false := by
     cases hs : (iv id).isSome with
     | false => rfl
     | true => exact absurd (hall id (wf_u64 hid) hs) hd
   have h2 := h.old id hid hd
   refine ⟨by rw [h2]; simpa using h1, ?_⟩
   by_cases e : f id = []
   · exact e
   · have := (h0.row id hid).1.2 e
     rw [h1] at this; cases this
 refine ⟨h.im, h.nm, h.lt, fun id hid => ?_, fun id id' q hid hid' h1 h2 => ?_⟩
 {
 by_cases hd : (id : Int) ∈ dn
 {
 obtain ⟨a1, a2, a3⟩ := h.row id hid hd
 exact ⟨⟨fun _ => (h0.row id hid).1.1 a1.2, fun _ => a1.1⟩, a2, a3⟩
 }
 {
 obtain ⟨a1, a2⟩ := hno id hid hd
 rw [a1, a2]
 exact ⟨by simp, RowI.nil _, fun q e => by cases e⟩
 }
 }
 {
 by_cases hd : (id : Int) ∈ dn
 {
 by_cases hd' : (id' : Int) ∈ dn
 · exact h.inj id id' q hid hid' hd hd' h1 h2
 · rw [(hno id' hid' hd').1] at h2; cases h2
 }
 · rw [(hno id hid hd).1] at h1; cases h1
 }
end
theorem Blk.frc {S : List Nat} {w w' : World} {b : Nat} {t : TypeId} {l : List Value} (h : Blk w b t l) (hf : Fr S w w') (hn : b ∉ S) : Blk w' b t l := hf.blk h hn
theorem Blk.fr0c {w w' : World} {b : Nat} {t : TypeId} {l : List Value} (h : Blk w b t l) (hf : Fr [] w w') : Blk w' b t l := hf.blk h (by simp)
section
variable {w w' : World} {ps : Nat} {s : Sm} {K : List Nat}
theorem st_copy (h : StoreAt w ps s K) : Calls Tryz.prog 52 #[sptr ps] w fun e w' => ∃ pc, e = .returned (sptr pc) ∧ ∃ K', StoreAt w' pc s K' ∧ Fr [] w w' ∧ ∀ q ∈ K', w.heap.size ≤ q := by
 have HV := Lib.hid (st_valid h)
 obtain ⟨pa, pt, mb, n, vl, la, lT, lb, c, hB, rfl, c0, c1, c2, c3, c4, c5, c6⟩ := h.open
 have HB := Lib.hid hB
 have HLT := Lib.hid hB.lt
 have hnE := hB.nE
 have hE := hB.ok.leE
 obtain ⟨iv, hI⟩ := hB.inc
 have HI := Lib.hid hI
 have HC1 := Lib.hid (fun (w' : World) (hf : Fr [] w w') => arena_copy (hB.ar.fr hf (by simp)))
 have HC2 := Lib.hid (fun (w' : World) (hf : Fr [] w w') => tab_copy (hB.tb.fr hf (by simp)))
 have HC3 := Lib.hid (fun (w' : World) (hf : Fr [] w w') => clone_live (hB.lv.fr0 hf) (by simp; omega))
 have HC4 := Lib.hid (fun (w' : World) (hf : Fr [] w w') => smap_clone (hI.fr hf (by simp) (by simp)).im)
 have hps := hB.hd.lt
 obtain ⟨av, cv, rfl⟩ : ∃ a cap, vl = .slice a n cap := by simpa using hB.lv.slice
 clear h hB hI
 go_enter Tryz.func52, Tryz.ntmps52
 go_wp2_with fail
 refine HV.out.mono ?_
 rintro _ w ⟨rfl, rfl⟩
 have hne : ps ≠ w.heap.size := by omega
 have hFa : Fr [] w (w.alloc (.cells #[.int .i64 s.V, .int .i64 s.E, .int .u64 s.last, ptr pa, ptr pt, .slice av n cv, .map (some mb)] 144)) := (Fr.refl [] w).alloc _
 have hB0 : Blk (w.alloc (.cells #[.int .i64 s.V, .int .i64 s.E, .int .u64 s.last, ptr pa, ptr pt, .slice av n cv, .map (some mb)] 144)) w.heap.size 144 [.int .i64 s.V, .int .i64 s.E, .int .u64 s.last, ptr pa, ptr pt, .slice av n cv, .map (some mb)] := Blk.new w _ _
 have hs0 : (w.alloc (.cells #[.int .i64 s.V, .int .i64 s.E, .int .u64 s.last, ptr pa, ptr pt, .slice av n cv, .map (some mb)] 144)).heap.size = w.heap.size + 1 := by simp
 go_wp2_with fail
 refine (HC1.out _ hFa).mono ?_
 rintro _ w2 ⟨pa', rfl, la', hA2, hF2, hl2⟩
 have hb2 := hF2.blk hB0 (by simp)
 have d2 := hb2.cell 3
 have z2 := hb2.frozen 3
 simp only [List.getElem?_cons_zero, List.getElem?_cons_succ] at d2
 have e4 := (hFa.trans' hF2).cell c4 (by simp)
 have hs2 := hF2.size
 have hl2' : ∀ q ∈ la', w.heap.size + 1 ≤ q := fun q hq => by have := hl2 q hq; omega
 have HF2 := Lib.hid (And.intro (hFa.trans' hF2) (And.intro hb2 (And.intro hA2 hl2')))
 clear hFa hB0 hF2 hb2 hA2 hl2 hl2' HC1 c0 c1 c2 c3
 go_wp2_with fail
 have hF3 : Fr [] w (w2.setCell ⟨w.heap.size, 3, none⟩ (ptr pa')) := HF2.out.1.setCell _ _ (.inr (Nat.le_refl _))
 have hb3 := HF2.out.2.1.set 3 (ptr pa')
 have hA3 := HF2.out.2.2.1.fr ((Fr.refl [w.heap.size] w2).setCell ⟨w.heap.size, 3, none⟩ (ptr pa') (.inl (by simp))) (fun q hq hm => by have := HF2.out.2.2.2 q hq; rw [List.mem_singleton] at hm; omega)
 have hs3 : (w2.setCell ⟨w.heap.size, 3, none⟩ (ptr pa')).heap.size = w2.heap.size := by simp
 simp only [List.set_cons_zero, List.set_cons_succ] at hb3
 have hl2 := HF2.out.2.2.2
 clear d2 z2 e4 HF2
 generalize w2.setCell ⟨w.heap.size, 3, none⟩ (ptr pa') = w3 at *
 have HF3 := Lib.hid (And.intro hF3 (And.intro hb3 (And.intro hA3 hl2)))
 have HLA := Lib.hid hA3.lt
 clear hb3 hA3 hl2
 refine (HC2.out _ hF3).mono ?_
 rintro _ w4 ⟨pt', rfl, lT', hT4, hF4, hl4⟩
 have hb4 := hF4.blk HF3.out.2.1 (by simp)
 have hA4 := HF3.out.2.2.1.fr hF4 (by simp)
 have d2 := hb4.cell 4
 have z2 := hb4.frozen 4
 simp only [List.getElem?_cons_zero, List.getElem?_cons_succ] at d2
 have e5 := (hF3.trans' hF4).cell c5 (by simp)
 have hs4 := hF4.size
 have HF4 := Lib.hid (And.intro (hF3.trans' hF4) (And.intro hb4 (And.intro hA4 (And.intro HF3.out.2.2.2 (And.intro hT4 (show ∀ q ∈ lT', w3.heap.size ≤ q from hl4))))))
 clear hF3 hF4 hb4 hA4 hT4 hl4 HC2 c4 HF3
 go_wp2_with fail
 have hF5 : Fr [] w (w4.setCell ⟨w.heap.size, 4, none⟩ (ptr pt')) := HF4.out.1.setCell _ _ (.inr (Nat.le_refl _))
 have hset : Fr [w.heap.size] w4 (w4.setCell ⟨w.heap.size, 4, none⟩ (ptr pt')) := (Fr.refl [w.heap.size] w4).setCell ⟨w.heap.size, 4, none⟩ (ptr pt') (.inl (by simp))
 have hb5 := HF4.out.2.1.set 4 (ptr pt')
 have hla3 := HF4.out.2.2.2.1
 have hA5 := HF4.out.2.2.1.fr hset (fun q hq hm => by have := hla3 q hq; rw [List.mem_singleton] at hm; omega)
 have hT5 := HF4.out.2.2.2.2.1.fr hset (fun q hq hm => by have := HF4.out.2.2.2.2.2 q hq; rw [List.mem_singleton] at hm; omega)
 have hs5 : (w4.setCell ⟨w.heap.size, 4, none⟩ (ptr pt')).heap.size = w4.heap.size := by simp
 have hl5 := HF4.out.2.2.2.2.2
 have hla4 := HF4.out.2.2.1.lt
 simp only [List.set_cons_zero, List.set_cons_succ] at hb5
 clear d2 z2 e5 HF4 hset
 generalize w4.setCell ⟨w.heap.size, 4, none⟩ (ptr pt') = w5 at *
 have HF5 := Lib.hid (And.intro hF5 (And.intro hb5 (And.intro hA5 (And.intro hla3 (And.intro hT5 hl5)))))
 have HLAT := Lib.hid (And.intro HLA.out hT5.lt)
 clear hb5 hA5 hla3 hT5 hl5 HLA
 refine (HC3.out _ hF5).mono ?_
 rintro _ w6 ⟨vl', rfl, hV6, hn6, hF6⟩
 obtain ⟨av', cv', rfl⟩ : ∃ a cap, vl' = .slice a n cap := by simpa using hV6.slice
 have hb6 := hF6.blk HF5.out.2.1 (by simp)
 have d2 := hb6.cell 5
 have z2 := hb6.frozen 5
 simp only [List.getElem?_cons_zero, List.getElem?_cons_succ] at d2
 have e6 := (hF5.trans' hF6).cell c6 (by simp)
 have hs6 := hF6.size
 have HF6 := Lib.hid (And.intro (hF5.trans' hF6) (And.intro hb6 (And.intro (HF5.out.2.2.1.fr hF6 (by simp)) (And.intro HF5.out.2.2.2.1 (And.intro (HF5.out.2.2.2.2.1.fr hF6 (by simp)) (And.intro HF5.out.2.2.2.2.2 (And.intro hV6 hn6)))))))
 clear hF5 hF6 hb6 hV6 hn6 HC3 c5 HF5
 go_wp2_with fail
 have hF7 : Fr [] w (w6.setCell ⟨w.heap.size, 5, none⟩ (.slice av' n cv')) := HF6.out.1.setCell _ _ (.inr (Nat.le_refl _))
 have hset : Fr [w.heap.size] w6 (w6.setCell ⟨w.heap.size, 5, none⟩ (.slice av' n cv')) := (Fr.refl [w.heap.size] w6).setCell ⟨w.heap.size, 5, none⟩ _ (.inl (by simp))
 have hb7 := HF6.out.2.1.set 5 (.slice av' n cv')
 have hA7 := HF6.out.2.2.1.fr hset (fun q hq hm => by have := HF6.out.2.2.2.1 q hq; rw [List.mem_singleton] at hm; omega)
 have hT7 := HF6.out.2.2.2.2.1.fr hset (fun q hq hm => by have := HF6.out.2.2.2.2.2.1 q hq; rw [List.mem_singleton] at hm; omega)
 have hV7 := HF6.out.2.2.2.2.2.2.1.fr hset (fun q hq hm => by have := HF6.out.2.2.2.2.2.2.2 q hq; rw [List.mem_singleton] at hm; omega)
 have hs7 : (w6.setCell ⟨w.heap.size, 5, none⟩ (.slice av' n cv')).heap.size = w6.heap.size := by simp
 simp only [List.set_cons_zero, List.set_cons_succ] at hb7
 have HL7 := Lib.hid (And.intro HF6.out.2.2.2.1 (And.intro HF6.out.2.2.2.2.2.1 HF6.out.2.2.2.2.2.2.2))
 have hlT6 := HF6.out.2.2.2.2.1.lt
 clear d2 z2 e6 HF6 hset
 generalize w6.setCell ⟨w.heap.size, 5, none⟩ (.slice av' n cv') = w7 at *
 have HF7 := Lib.hid (And.intro hF7 (And.intro hb7 (And.intro hA7 (And.intro hT7 hV7)))); clear hb7 hA7 hT7 hV7
 refine (HC4.out _ hF7).mono ?_
 rintro _ w8 ⟨rfl, hM8, hF8⟩
 rw [hs7] at hM8
 have hb8 := hF8.blk HF7.out.2.1 (by simp)
 have d2 := hb8.cell 6
 have z2 := hb8.frozen 6
 simp only [List.getElem?_cons_zero, List.getElem?_cons_succ] at d2
 have e7 := (hF7.trans' hF8).cell c6 (by simp)
 have hs8 := hF8.size
 have hml := hM8.lt
 have hvo : ∀ q, (Value.slice av' n cv').ownBlock = some q → w.heap.size + 1 ≤ q ∧ q < w6.heap.size := fun q hq => ⟨by have := HL7.out.2.2 q hq; omega, by have := HF7.out.2.2.2.2.lt hq; omega⟩
 have hlA := HF7.out.2.2.1.lt
 have hlT := HF7.out.2.2.2.1.lt
 have hset : Fr [w.heap.size] w8 (w8.setCell ⟨w.heap.size, 6, none⟩ (.map (some w6.heap.size))) := (Fr.refl _ w8).setCell ⟨w.heap.size, 6, none⟩ _ (.inl (by simp))
 have hF9 : Fr [] w (w8.setCell ⟨w.heap.size, 6, none⟩ (.map (some w6.heap.size))) := (hF7.trans' hF8).setCell _ _ (.inr (Nat.le_refl _))
 have hb9 := hb8.set 6 (.map (some w6.heap.size))
 simp only [List.set_cons_zero, List.set_cons_succ] at hb9
 have hn9 : ∀ q, w.heap.size + 1 ≤ q → q ∉ [w.heap.size] := fun q hq hm => by rw [List.mem_singleton] at hm; omega
 have hA9 := (HF7.out.2.2.1.fr hF8 (by simp)).fr hset (fun q hq => hn9 q (HL7.out.1 q hq))
 have hT9 := (HF7.out.2.2.2.1.fr hF8 (by simp)).fr hset (fun q hq => hn9 q (by have := HL7.out.2.1 q hq; omega))
 have hV9 := (HF7.out.2.2.2.2.fr0 hF8).fr hset (fun q hq => hn9 q (hvo q hq).1)
 have hM9 := hM8.same (hset.keep _ hml (hn9 _ (by omega)))
 have HIM := Lib.hid (HI.out.fr hF9 (by simp) (by simp))
 have hc6 := hb9.cell 6
 simp only [List.getElem?_cons_zero, List.getElem?_cons_succ] at hc6
 have hs9 : (w8.setCell ⟨w.heap.size, 6, none⟩ (.map (some w6.heap.size))).heap.size = w8.heap.size := by simp
 have H9 := Lib.hid (And.intro hF9 (And.intro hb9 (And.intro hA9 (And.intro hT9 (And.intro hV9 hM9)))))
 have HVO := Lib.hid (And.intro hvo (And.intro (fun q (hq : q ∈ la') => And.intro (HL7.out.1 q hq) (show q < w6.heap.size by have := hlA q hq; omega)) (fun q (hq : q ∈ lT') => And.intro (show w.heap.size + 1 ≤ q by have := HL7.out.2.1 q hq; omega) (And.intro (show w3.heap.size ≤ q from HL7.out.2.1 q hq) (show q < w6.heap.size by have := hlT q hq; omega)))))
 clear hF7 hF8 hb8 hM8 HC4 HF7 hset hF9 hb9 hn9 hA9 hT9 hV9 hM9 hvo hlA hlT hml c6
 go_wp2_with (first | (at_range; refine wpList_irange rfl _ rfl HIM.out.im Tryz.underlying26 Tryz.underlying142 rfl ?_; intro w10 cnt0 hI0 hc0 hF0 hs0) | fail)
 go_frame
 generalize w8.setCell ⟨w.heap.size, 6, none⟩ (.map (some w6.heap.size)) = w9 at *
 clear hs9
 have hm6 := H9.out.2.2.2.2.2.lt
 have HI0 := Lib.hid (And.intro hI0 (And.intro hF0 hs0))
 have hs90 := hF0.size
 clear hI0 hF0 hs0
 have hnmm : s.M.L.length < maxLen := by have := HB.out.ok.md.len; unfold maxLen; omega
 obtain ⟨nm, hnm⟩ : ∃ nm, nm = s.M.L.length := ⟨_, rfl⟩
 rw [← hnm] at H9 HI0 HIM hnmm HI
 have HNM := Lib.hid hnm
 clear hnm hc0 d2 z2 e7 hc6
 have hcl : ∀ id, (incL s.L id).length ≤ 16384 := fun id => by
   have h1 := incL_len s.L id
   have h2 := Sm.len_used HB.out.ok
   have h3 := HB.out.ok.ar.hb; have h4 := HB.out.ok.sl
   unfold Ar.used at h2
   omega
 have HCL := Lib.hid (And.intro hcl hnmm); clear hcl hnmm
 have hmbw : mb < w.heap.size := HLT.out mb (by simp [stK])
 have hs10 := HI0.out.2.2
 have hrbm : w9.heap.size ≠ mb := by have := HIM.out.im.lt; omega
 go_loopw [] (fun wr => ∃ (dn : List Int) (cnt : Nat) (iv' : Int → Option Value) (lc : List Nat), Hid (IRange Tryz.prog 26 .u64 okS wr mb w9.heap.size iv nm dn cnt ∧ CI wr w10.heap.size w6.heap.size iv iv' (incL s.L) nm dn lc ∧ Fr [w6.heap.size, w9.heap.size] w10 wr)) (fun wr => wr.rangeLeft mb w9.heap.size)
 case atStart => exact ⟨[], cnt0, iv, [], Lib.hid ⟨HI0.out.1, (CI.start (H9.out.2.2.2.2.2)).fr HI0.out.2.1 (by simp) (by simp), Fr.refl _ _⟩⟩
 case round =>
  obtain ⟨dn, cnt, iv', lc, HR⟩ := hrel
  rename World => wr
  have hF10 : Fr [] w wr := (H9.out.1.trans' HI0.out.2.1).trans HR.out.2.2 (fun q hq => .inr (by simp at hq; omega))
  have HFW := Lib.hid hF10
  have hsr := HR.out.2.2.size
  clear hF10
  go_wp2_with (first | (at_next; refine wpList_inext rfl _ rfl Tryz.underlying26 rfl HR.out.1 ?_ ?_) | fail)
  {
  intro hall
  have HA := Lib.hid hall; clear hall
  go_wp2_with fail
  go_ret
  have hII := HR.out.2.1.all (HI.out) HA.out
  have hF1 : Fr [w6.heap.size, w9.heap.size] w9 wr := (HI0.out.2.1.mono (by simp)).trans' HR.out.2.2
  have hno : ∀ q, q < w6.heap.size → q ∉ [w6.heap.size, w9.heap.size] := fun q hq hm => by simp at hm; omega
  have hge := HR.out.2.1.ge
  refine ⟨_, rfl, _, ⟨pa', pt', w6.heap.size, n, .slice av' n cv', la', lT', lc, fun x => if x = w.heap.size then 0 else if x = w6.heap.size then 1 else if w10.heap.size ≤ x then 5 else if x ∈ la' then 2 else if x ∈ lT' then 3 else 4, ⟨hF1.blk H9.out.2.1 (hno _ (by omega)), H9.out.2.2.1.fr hF1 (fun q hq => hno q (HVO.out.2.1 q hq).2), H9.out.2.2.2.1.fr hF1 (fun q hq => hno q (HVO.out.2.2 q hq).2.2), H9.out.2.2.2.2.1.fr hF1 (fun q hq => hno q (HVO.out.1 q hq).2), ⟨iv', by rw [← HNM.out]; exact hII⟩, HB.out.sn, hnE, HB.out.ok, ?_⟩, rfl⟩, HFW.out, ?_⟩
  {
  have h1 := HVO.out.1
  have h2 := HVO.out.2.1
  have h3 := HVO.out.2.2
  have hL := HLAT.out
  refine ⟨if_pos rfl, ?_, fun q hq => ?_, fun q hq => ?_, fun q hq => ?_, fun q hq => ?_⟩
  · rw [if_neg (by omega), if_pos rfl]
  {
  have := h2 q hq
  rw [if_neg (by omega), if_neg (by omega), if_neg (by omega), if_pos hq]
  }
  {
  have := h3 q hq
  have hn : q ∉ la' := fun hm => by have := hL.1 q hm; omega
  rw [if_neg (by omega), if_neg (by omega), if_neg (by omega), if_neg hn, if_pos hq]
  }
  {
  have := h1 q hq
  have h5 := HL7.out.2.2 q hq
  have hn : q ∉ la' := fun hm => by have := hL.1 q hm; omega
  have hn2 : q ∉ lT' := fun hm => by have := hL.2 q hm; omega
  rw [if_neg (by omega), if_neg (by omega), if_neg (by omega), if_neg hn, if_neg hn2]
  }
  {
  have := hge q hq
  rw [if_neg (by omega), if_neg (by omega), if_pos this]
  }
  }
  {
  intro q hq
  simp only [stK, List.mem_cons, List.mem_append, Option.mem_toList] at hq
  rcases hq with rfl | rfl | ((hq | hq) | hq) | hq
  · exact Nat.le_refl _
  · omega
  · have := (HVO.out.2.1 q hq).1; omega
  · have := (HVO.out.2.2 q hq).1; omega
  · have := (HVO.out.1 q hq).1; omega
  · have := hge q hq; omega
  }
  }
  {
  intro x cv0 w1 cnt1 hwx hm hnd hI1 hlt1 hF1 hs1 hen
  obtain ⟨id, rfl, hid⟩ := u64_of_wf hwx
  have hFw1 : Fr [] w w1 := HFW.out.trans hF1 (fun q hq => .inr (by rw [List.mem_singleton] at hq; omega))
  have hrow := ((HI.out.fr hFw1 (by simp) (by simp)).row id hid).2.1
  rw [hm] at hrow
  obtain ⟨ac, cc, ec⟩ := hrow.slice
  simp only [Option.getD_some] at ec hrow
  subst ec
  have hCL := clone_ints (hrow.fr0 ((Fr.refl [] w1).drew)) (HCL.out.1 id)
  have hCI := HR.out.2.1.fr hF1 (by simp; omega) (fun q hq hm => by have := HR.out.2.1.ge q hq; rw [List.mem_singleton] at hm; omega)
  have HPU := Lib.hid (show ∀ (w5 : World) (v5 : Value), Fr [] w1 w5 → RowI w5 v5 (incL s.L id) → ∃ w6', (Instr.mapUpdate 142 (.map (some w6.heap.size)) (.int .u64 id) v5).run Tryz.prog w5 = .ok () w6' ∧ IMap Tryz.prog 26 .u64 okS w6' w6.heap.size (updM iv' id (some v5)) (if (iv' id).isSome = true then nm else nm + 1) ∧ Fr [w6.heap.size] w5 w6' from fun w5 v5 hf hr => by
    obtain ⟨a5, c5, rfl⟩ := hr.slice
    exact (hCI.im.same (hf.keep _ hCI.im.lt (by simp))).put Tryz.underlying26 Tryz.underlying142 HCL.out.2 (wf_u64 hid) rfl)
  have hb1 := (((H9.out.2.1.fr0c HI0.out.2.1).frc HR.out.2.2 (by simp; omega)).frc hF1 (by simp; omega)).cell 6
  simp only [List.getElem?_cons_zero, List.getElem?_cons_succ] at hb1
  have HK := Lib.hid (fun (w' : World) (S : List Nat) (hf : Fr S w1 w') (hs : w.heap.size ∉ S) => hf.cell hb1 hs)
  have HNC := Lib.hid (show w.heap.size ∉ [w6.heap.size] by simp; omega)
  have HCLn := Lib.hid hCL
  have HX := Lib.hid (And.intro hCI (And.intro hI1 (And.intro hF1 (And.intro hnd hm))))
  clear hCL hCI hrow hI1 hF1 hnd hm hFw1 hwx
  go_wp2_with fail
  go_region_held3 (fun w' => w'.cell? ⟨w.heap.size, 6, none⟩ = some (.map (some w6.heap.size)))
    (first
      | with_reducible exact HK.out _ _ hF16 HNC.out
      | with_reducible exact HK.out _ _ hF15 (by simp)
      | with_reducible exact HK.out _ _ ((Fr.refl [] w1).drew) (by simp))
    (first
      | (go_at_call 105; with_reducible refine Calls.mono HCLn.out ?_; rintro r w5' ⟨v5, rfl, hr5, hn5, hF5⟩
         have hF15 : Fr [] w1 w5' := ((Fr.refl [] w1).drew).trans' hF5
         obtain ⟨w6', hrun6, hM6, hG6⟩ := HPU.out w5' v5 hF15 hr5
         have hF16 : Fr [w6.heap.size] w1 w6' := (hF15.mono (by simp)).trans' hG6))
  all_goals
   go_wp2_with fail
   go_roundw
   case rel =>
    have hI6 := HX.out.2.1.fr hF16 (by simp; omega) (by simp; omega)
    refine ⟨dn ++ [(id : Int)], cnt1, _, _, Lib.hid ⟨hI6, HX.out.1.put hid (by rw [HX.out.2.2.2.2]; rfl) HX.out.2.2.2.1 hr5 hn5 (by omega) hF15 hM6 hG6, (HR.out.2.2.trans HX.out.2.2.1 (fun q hq => .inl (by rw [List.mem_singleton] at hq; simp [hq]))).trans hF16 (fun q hq => .inl (by rw [List.mem_singleton] at hq; simp [hq]))⟩⟩
   case measure => rw [(HX.out.2.1.fr hF16 (by simp; omega) (by simp; omega)).left_eq, HR.out.1.left_eq]; omega
  }
end
theorem Mins.uniq {to : Int} {Q Q1 : Nat → Option Int} {ds : List Nat} (h : Mins to Q ds Q1) : ∀ {es : List Nat} {Q2 : Nat → Option Int}, Mins to Q es Q2 → ds = es ∧ Q1 = Q2 := by
 induction h with
 | done Q h => {
 intro es Q2 k
 cases k with
 | done _ _ => exact ⟨rfl, rfl⟩
 | more _ i x ds _ hq hx _ _ => have := h i x hq; omega
 }
 | more Q i x ds Q' hq hx hm h ih => {
 intro es Q2 k
 cases k with
 | done _ h2 => have := h2 i x hq; omega
 | more _ j y ds2 _ hq2 hx2 hm2 k2 => {
 have h1 := hm j y hq2
 have h2 := hm2 i x hq
 have e : i = j := by omega
 subst e
 obtain ⟨e1, e2⟩ := ih k2
 exact ⟨by rw [e1], e2⟩
 }
 }
def RI (w : World) (pr : Nat) (v : Value) (ds : List Nat) (to : Int) (SE : Sm) (k : Nat) (wr : World) : Prop :=
  ∃ s1 Q1 Q' G1 Kr, StoreAt wr pr s1 Kr ∧ RowI wr v ds ∧ (∀ q, v.ownBlock = some q → q ∉ Kr) ∧ Fr [] w wr ∧ (∀ q ∈ Kr, w.heap.size ≤ q) ∧ Lk s1 Q1 G1 ∧ s1.Ok ∧ Mins to Q1 (ds.drop k) Q' ∧ s1.rems (ds.drop k) = SE
section
variable {w w' : World} {pw pc ps px pf : Nat} {P : Wp} {Ks lx Lf K : List Nat} {cl : Nat → Nat}
theorem wroom_w (h : WinB w pw pc ps px pf P Ks lx Lf cl) (hl : Lk P.s P.Q P.G) (hok : P.s.Ok) (u v : Nat) (hu : u < 18446744073709551616) (hv : v < 18446744073709551616) (wt t : Int) :
    Calls Tryz.prog 56 #[wptr pw, recA u v wt t] w fun e w' => ∃ c : Nat, e = .returned (.int .i64 c) ∧ Fr [] w w' ∧ ((P.s.chk u v = 0 ∧ c = 0) ∨ ∃ ds Q', P.s.chk u v ≠ 0 ∧ Mins t P.Q ds Q' ∧ c = (P.s.rems ds).chk u v) := by
 have hf0 : Fr [] w (w.alloc (.cells #[.int .u64 u, .int .u64 v, .int .i64 wt, .int .i64 t] 42)) := (Fr.refl _ _).alloc _
 have hbx := Blk.new w [.int .u64 u, .int .u64 v, .int .i64 wt, .int .i64 t] 42
 have hB := h.fr0 hf0
 obtain ⟨w1, hw1⟩ : ∃ w1, w1 = w.alloc (.cells #[.int .u64 u, .int .u64 v, .int .i64 wt, .int .i64 t] 42) := ⟨_, rfl⟩
 rw [show w.alloc (.cells [.int .u64 u, .int .u64 v, .int .i64 wt, .int .i64 t].toArray 42) = w.alloc (.cells #[.int .u64 u, .int .u64 v, .int .i64 wt, .int .i64 t] 42) from rfl, ← hw1] at hbx
 rw [← hw1] at hf0 hB
 have hsx : w.heap.size < w1.heap.size := by rw [hw1]; simp
 have HCk := Lib.hid (fun (nq : Nat) => st_check (hB.st.fr0 ((Fr.refl [] w1).drewN nq)) u v hu hv wt t)
 have c5 := hB.hd.cell 5
 have r0 := hbx.cell 0; have r1 := hbx.cell 1; have r2 := hbx.cell 2; have r3 := hbx.cell 3
 simp only [List.getElem?_cons_zero, List.getElem?_cons_succ] at c5 r0 r1 r2 r3
 have HB := Lib.hid (And.intro hB (And.intro hf0 hbx))
 have HL := Lib.hid (And.intro hl hok)
 clear hB hf0 hbx hl hok h
 go_enter Tryz.func56, Tryz.ntmps56
 obtain ⟨xb, hxb⟩ : ∃ xb, xb = w.heap.size := ⟨_, rfl⟩
 have c5' := c5; have r0' := r0; have r1' := r1; have r2' := r2; have r3' := r3
 rw [hw1] at c5' r0' r1' r2' r3'
 go_wp2_with fail
 rw [← hw1, ← hxb]
 rw [← hxb] at HB r0 r1 r2 r3 hsx
 clear c5' r0' r1' r2' r3' hw1
 have HXB := Lib.hid hxb; clear hxb
 refine region_one 5 (fun w' => Fr [] w1 w') (by kernel_rfl) (by kernel_rfl) (by kernel_rfl) ?_
 iterate 5 (refine gWalk_pre (by decide) (fun K hK => ?_); go_simp; refine hK _ ?_; clear hK K)
 refine gWalk_write rfl (.int .i64 (P.s.chk u v)) (fun w' hw' => ?_) ?_
 {
 obtain ⟨nq, rfl⟩ := hw'
 go_simp
 refine (HCk.out nq).mono ?_
 rintro _ w1 ⟨rfl, hf⟩
 exact ⟨rfl, ((Fr.refl [] _).drewN nq).trans' hf⟩
 }
 iterate 1 (refine gWalk_post (by decide) (fun K hK => ?_); go_simp; refine hK _ ?_; clear hK K)
 refine gWalk_nil ?_
 rintro W2 hF2
 have hB2 := HB.out.1.fr0 hF2
 have hb2 := hF2.blk HB.out.2.2 (by simp)
 clear c5 r0 r1 r2 r3
 have c5 := hB2.hd.cell 5; have c6 := hB2.hd.cell 6
 have r0 := hb2.cell 0; have r1 := hb2.cell 1; have r2 := hb2.cell 2; have r3 := hb2.cell 3
 simp only [List.getElem?_cons_zero, List.getElem?_cons_succ] at c5 c6 r0 r1 r2 r3
 have hF20 := HB.out.2.1.trans' hF2
 have hsx2 : xb < W2.heap.size := by have := hF2.size; omega
 have HN := Lib.hid (xnext_w hB2.sch)
 have H2 := Lib.hid (And.intro hB2 (And.intro hb2 hF20))
 clear hB2 hb2 hF20 hF2 HB HCk
 by_cases hc : P.s.chk u v = 0
 {
 have HC := Lib.hid hc
 rw [hc]
 clear hc
 go_wp2
 go_ret
 exact ⟨0, rfl, H2.out.2.2, .inl ⟨HC.out, rfl⟩⟩
 }
 {
 have HC := Lib.hid hc
 obtain ⟨cc, hcc⟩ : ∃ cc, cc = P.s.chk u v := ⟨_, rfl⟩
 rw [← hcc] at hc ⊢
 have d1 : ((cc : Int) == 0) = false := by simp; omega
 have HCC := Lib.hid hcc
 clear hcc hc
 go_wp2_with fail
 refine HN.out.mono ?_
 rintro r W3 ⟨hF3, hr⟩
 have hB3 := H2.out.1.fr0 hF3
 have hb3 := hF3.blk H2.out.2.1 (by simp)
 clear c5 c6 r0 r1 r2 r3
 have c5 := hB3.hd.cell 5; have c6 := hB3.hd.cell 6
 have r0 := hb3.cell 0; have r1 := hb3.cell 1; have r2 := hb3.cell 2; have r3 := hb3.cell 3
 simp only [List.getElem?_cons_zero, List.getElem?_cons_succ] at c5 c6 r0 r1 r2 r3
 have hF30 := H2.out.2.2.trans' hF3
 have hsx3 : xb < W3.heap.size := by have := hF3.size; omega
 have H3 := Lib.hid (And.intro hB3 (And.intro hb3 hF30))
 clear hB3 hb3 hF30 hF3 H2 HN hsx2 hsx
 have nodue : ∀ W, Fr [] w W → (∀ j y, P.Q j = some y → t < y) → ∃ c : Nat, Ending.returned (.int .i64 (cc : Nat)) = .returned (.int .i64 c) ∧ Fr [] w W ∧ ((P.s.chk u v = 0 ∧ c = 0) ∨ ∃ ds Q', P.s.chk u v ≠ 0 ∧ Mins t P.Q ds Q' ∧ c = (P.s.rems ds).chk u v) := fun W hf hq =>
   ⟨cc, rfl, hf, .inr ⟨[], P.Q, HC.out, .done _ hq, HCC.out⟩⟩
 have HND := Lib.hid nodue
 clear nodue
 rcases hr with ⟨hn, rfl⟩ | ⟨hn, i, k, hq, hm, rfl⟩
 {
 have Hn := Lib.hid hn; clear hn
 go_wp2
 go_ret
 refine HND.out _ (H3.out.2.2.trans' ((Fr.refl _ _).alloc _)) (fun j y hy => ?_)
 obtain ⟨ph', lh', _, ⟨e, pl, v, gp, cp, bs, _, _, _, hQ, _⟩, _, _⟩ := H3.out.1.sch
 obtain ⟨p, hp, _⟩ := (hQ j y).1 hy
 have := Hn.out
 omega
 }
 {
 have Hq := Lib.hid (And.intro hn (And.intro hq hm)); clear hn hq hm
 by_cases hk : t < k
 {
 have d2 : decide (k > t) = true := decide_eq_true hk
 have Hk := Lib.hid hk; clear hk
 have hxe : xb ≠ W3.heap.size := by omega
 have r3' : (W3.alloc (.cells #[.int .i64 (i : Nat), .int .i64 k] 136)).cell? ⟨xb, 3, none⟩ = some (.int .i64 t) := ((Fr.refl [] W3).alloc _).cell r3 (by simp)
 go_wp2
 go_ret
 refine HND.out _ (H3.out.2.2.trans' ((Fr.refl _ _).alloc _)) (fun j y hy => ?_)
 have h1 := Hq.out.2.2 j y hy
 have h2 := Hk.out
 unfold elt at h1
 simp only at h1
 omega
 }
 {
 have d2 : decide (k > t) = false := decide_eq_false hk
 clear hk HND Hq
 have hF4 : Fr [] W3 (W3.alloc (.cells #[.int .i64 (i : Nat), .int .i64 k] 136)) := (Fr.refl [] W3).alloc _
 have hB4 := H3.out.1.fr0 hF4
 have hb4 := hF4.blk H3.out.2.1 (by simp)
 have c5' := hB4.hd.cell 5
 have r3' := hb4.cell 3
 simp only [List.getElem?_cons_zero, List.getElem?_cons_succ] at c5' r3'
 have hF40 := H3.out.2.2.trans' hF4
 have hsx4 : xb < (W3.alloc (.cells #[.int .i64 (i : Nat), .int .i64 k] 136)).heap.size := by simp; omega
 have HCo := Lib.hid (st_copy hB4.st)
 have H4 := Lib.hid (And.intro hB4 (And.intro hb4 hF40))
 clear hB4 hb4 hF40 hF4
 go_wp2_with fail
 clear c5 c6 r0 r1 r2 r3 c5' r3' H3
 generalize (W3.alloc (.cells #[.int .i64 (i : Nat), .int .i64 k] 136)) = W4 at *
 refine HCo.out.mono ?_
 rintro _ W5 ⟨pr, rfl, Kr, hS5, hF5, hN5⟩
 have hB5 := H4.out.1.fr0 hF5
 have hb5 := hF5.blk H4.out.2.1 (by simp)
 have HC5 := Lib.hid (show ∀ w', Fr [] W5 w' → w'.cell? ⟨pw, 6, none⟩ = some (hptr px) ∧ w'.cell? ⟨xb, 3, none⟩ = some (.int .i64 t) from fun w' hf => ⟨(hf.blk hB5.hd (by simp)).cell 6, (hf.blk hb5 (by simp)).cell 3⟩)
 have HCp := Lib.hid (fun (w' : World) (hf : Fr [] W5 w') => xcopy_w (hB5.sch.fr0 hf))
 have H5 := Lib.hid (And.intro hS5 (And.intro hF5 hN5))
 clear hB5 hb5 hS5 hF5 hN5 HCo
 go_wp2_with fail
 go_region_held3 (fun w' => w'.cell? ⟨pw, 6, none⟩ = some (hptr px) ∧ w'.cell? ⟨xb, 3, none⟩ = some (.int .i64 t))
   (first
     | with_reducible exact HC5.out _ HF7.out
     | with_reducible exact HC5.out _ HF6.out
     | with_reducible exact HC5.out _ (Fr.refl [] W5).drew)
   (first
     | (go_at_call 53; with_reducible refine Calls.mono (HCp.out _ ((Fr.refl [] W5).drew)) ?_; rintro r w6 ⟨px2, rfl, l6, hS6, hF6, hN6⟩; have HF6 := Lib.hid (Fr.trans' (Fr.refl [] W5).drew hF6))
     | (go_at_call 44; with_reducible refine Calls.mono (due_w hS6 t) ?_; rintro r w7 ⟨v7, ds, Q', n', l7, rfl, hm, hS7, hR7, hF7, hN7, hV7⟩; obtain ⟨av, cv, rfl⟩ := hR7.slice; have HF7 := Lib.hid (HF6.out.trans hF7 (fun b hb => .inr (by simpa using hN6 b hb)))))
 rename_i hHH
 clear hHH
 have hT : RI W4 pr (.slice av ds.length cv) ds t (P.s.rems ds) 0 w7 := by {
 obtain ⟨hS5, hF5, hN5⟩ := H5.out
 have hs6 := HF6.out.size
 refine ⟨P.s, P.Q, Q', P.G, Kr, hS5.fr0 HF7.out, hR7, fun q hq hm => ?_, hF5.trans' HF7.out, hN5, HL.out.1, HL.out.2, by simpa using hm, by simp⟩
 have := (hV7 q hq).1; have := hS5.lt q hm; omega
 }
 have hdn : (ds.length : Int) ≤ 9223372036854775807 := by {
 obtain ⟨_, _, _, k4⟩ := hm.law HL.out.1 HL.out.2
 have h1 := Sm.len_used HL.out.2
 have h2 := HL.out.2.leE
 have h3 := HL.out.2.ar.hs
 have h4 := HL.out.2.ar.hb
 have h5 : P.s.A.used ≤ P.s.A.begun := Nat.sub_le _ _
 omega
 }
 have HT := Lib.hid hT
 have Hm := Lib.hid hm
 clear hT hS7 hR7 hF7 hN7 hV7 hS6 hF6 hN6 HF6 HF7 HC5 HCp H5 hm
 obtain ⟨SE, hSE⟩ : ∃ SE, SE = P.s.rems ds := ⟨_, rfl⟩
 rw [← hSE] at HT
 have HSE := Lib.hid hSE
 clear hSE
 go_wp2_with fail
 go_loopw [51] (fun x wr => ∃ k : Nat, k ≤ ds.length ∧ x = .int .i64 k ∧ Hid (RI W4 pr (.slice av ds.length cv) ds t SE k wr)) (fun x _ => ds.length - (intOf x).toNat)
 case atStart => exact ⟨0, Nat.zero_le _, rfl, HT⟩
 case round =>
  obtain ⟨k, hk, rfl, HI⟩ := hrel
  clear HT
  by_cases hkl : k < ds.length
  {
  have hki : (k : Int) < ds.length := by omega
  obtain ⟨s1, Q1, Q2, G1, Kr1, hst, hrow, hvq, hF, hnw, hlk, hsok, hmin, hSE⟩ := HI.out
  obtain ⟨i, hi⟩ : ∃ i, i = ds[k] := ⟨_, rfl⟩
  rw [drop_at hkl, ← hi] at hmin hSE
  obtain ⟨bv, cv', ev, _, hat⟩ := hrow.at hkl
  rw [← hi] at hat
  simp only [Value.slice.injEq, true_and] at ev
  obtain ⟨rfl, rfl⟩ := ev
  cases hmin with
  | more _ _ x _ _ hq hx hmn hrest =>
  have HR := Lib.hid (st_rem_yes hst i (lk_used hlk hsok hq))
  have HX := Lib.hid (And.intro hst (And.intro hrow (And.intro hvq (And.intro hF (And.intro hnw (And.intro hlk (And.intro hsok (And.intro hrest (And.intro hSE hq)))))))))
  clear hst hrow hvq hF hnw hlk hsok hrest hSE hq hmn hi
  go_wp2_with fail
  refine HR.out.mono ?_
  rintro _ w8 ⟨rfl, Kr2, hs8, hF8, hn8⟩
  have H8 := Lib.hid (And.intro hs8 (And.intro hF8 hn8))
  clear hs8 hF8 hn8 HR
  go_wp2_with fail
  go_roundw
  case rel =>
   refine ⟨k + 1, by omega, by go_num, Lib.hid ?_⟩
   obtain ⟨hst, hrow, hvq, hF, hnw, hlk, hsok, hrest, hSE, hq⟩ := HX.out
   obtain ⟨hs8, hF8, hn8⟩ := H8.out
   have hsz := hF.size
   refine ⟨s1.rem i, _, Q2, _, Kr2, hs8, hrow.fr hF8 (fun q hq hm => hvq q hq hm), fun q hq hm => ?_, hF.trans hF8 (fun b hb => .inr (hnw b hb)), fun q hm => ?_, hlk.drop hsok i, Sm.ok_rem hsok (lk_used hlk hsok hq), hrest, hSE⟩
   {
   rcases hn8 q hm with h | h
   · exact hvq q hq h
   · have := hrow.lt hq; omega
   }
   {
   rcases hn8 q hm with h | h
   · exact hnw q h
   · omega
   }
  case measure => simp [intOf]; omega
  }
  {
  obtain rfl : k = ds.length := by omega
  obtain ⟨s1, Q1, Q2, G1, Kr1, hst, hrow, hvq, hF, hnw, hlk, hsok, hmin, hSE⟩ := HI.out
  rw [List.drop_eq_nil_of_le (Nat.le_refl _)] at hSE
  have e1 : s1 = SE := hSE
  rw [e1] at hst
  have hb9 := hF.blk H4.out.2.1 (by simp)
  have r0 := hb9.cell 0; have r1 := hb9.cell 1; have r2 := hb9.cell 2; have r3 := hb9.cell 3
  simp only [List.getElem?_cons_zero, List.getElem?_cons_succ] at r0 r1 r2 r3
  have HCk := Lib.hid (st_check hst u v hu hv wt t)
  have HF := Lib.hid hF
  clear hst hrow hvq hF hnw hlk hsok hmin hSE e1 hb9
  go_wp2_with fail
  refine HCk.out.mono ?_
  rintro _ w9 ⟨rfl, hF9⟩
  have HF9 := Lib.hid (HF.out.trans' hF9)
  clear hF9 HF HCk r0 r1 r2 r3
  go_wp2_with fail
  go_ret
  exact ⟨_, rfl, H4.out.2.2.trans' HF9.out, .inr ⟨ds, Q', HC.out, Hm.out, by rw [HSE.out]⟩⟩
  }
 }
 }
 }
end
section
variable {w w' : World} {pw : Nat} {W : Wm} {K : List Nat}
theorem tick_wp (W : Wm) (to : Int) (ds : List Nat) (Q' : Nat → Option Int) (n n' : Nat) : ({ (W.wp n) with now := to, s := (W.wp n).s.rems ds, Q := Q', nq := n', G := fun j => if j ∈ ds then none else (W.wp n).G j, gone := (W.wp n).gone + ds.length } : Wp) = (W.tick to ds Q').wp n' := by
 simp [Wm.wp, Wm.tick, (rems_keep W.s ds).2.2]
theorem Wm.Ok.sum (h : W.Ok) : W.gone + W.s.L.length ≤ 9223372036854775807 := by have := h.last; have := h.max; omega
def WStep (w w' : World) (pw : Nat) (W' : Wm) (K : List Nat) : Prop := ∃ K', WinAt w' pw W' K' ∧ Fr K w w' ∧ ∀ q ∈ K', q ∈ K ∨ w.heap.size ≤ q
theorem wat_tick (h : WinAt w pw W K) (to : Int) (h1 : -9223372036854775808 ≤ to) (h2 : to ≤ 9223372036854775807) (hc : chkT W.m W.now to = 0) :
    Calls Tryz.prog 17 #[wptr pw, .int .i64 to] w fun e w' => e = .returned (.int .i64 0) ∧ ∃ ds Q', Mins to W.Q ds Q' ∧ WStep w w' pw (W.tick to ds Q') K := by
 obtain ⟨hok, pc, ps, px, pf, nq, Ks, lx, Lf, cl, hB, rfl⟩ := h
 refine (wtick_yes hB hok.lk hok.ok to h1 h2 hc hok.sum).mono ?_
 rintro _ w' ⟨rfl, ds, Q', n', Ks', lx', Lf', cl', hm, hB', hF, hn⟩
 obtain ⟨k1, k2⟩ := chkT_ok hc
 rw [tick_wp] at hB'
 exact ⟨rfl, ds, Q', hm, _, ⟨(Wm.tick_ok hok k1 k2 hm).1, pc, ps, px, pf, n', Ks', lx', Lf', cl', hB', rfl⟩, hF, hn⟩
theorem wat_tick_no (h : WinAt w pw W K) (to : Int) (h1 : -9223372036854775808 ≤ to) (h2 : to ≤ 9223372036854775807) (hc : chkT W.m W.now to ≠ 0) :
    Calls Tryz.prog 17 #[wptr pw, .int .i64 to] w fun e w' => e = .returned (.int .i64 (chkT W.m W.now to)) ∧ w' = w := by
 obtain ⟨hok, pc, ps, px, pf, nq, Ks, lx, Lf, cl, hB, rfl⟩ := h
 exact wtick_no hB to h1 h2 hc
theorem put_wp (W : Wm) (u v : Nat) (wt : Int) (a b n : Nat) : ({ (W.wp n) with s := (W.wp n).s.ins u v wt W.now (W.now + (W.wp n).m), Q := fun j => if j = (W.wp n).s.slot then some (W.now + (W.wp n).m) else (W.wp n).Q j, nq := (W.wp n).nq + 1, G := fun j => if j = (W.wp n).s.slot then some (a, b, W.now + (W.wp n).m) else (W.wp n).G j, added := (W.wp n).added + 1 } : Wp) = (W.put u v wt a b).wp (n + 1) := by
 simp [Wm.wp, Wm.put, Sm.ins]
 exact ⟨rfl, rfl⟩
def AddTo (w w' : World) (pw : Nat) (W : Wm) (K : List Nat) (u v : Nat) (wt t : Int) (c : Nat) : Prop :=
  ∃ ds Q', Mins t W.Q ds Q' ∧ ((c ≠ 0 ∧ W.s.chk u v ≠ 0 ∧ c = (W.s.rems ds).chk u v ∧ Fr [] w w') ∨
    (c = 0 ∧ (W.s.rems ds).chk u v = 0 ∧ ∃ a b, ((W.s.rems ds).ins u v wt t (t + W.m)).M.find u = some a ∧ ((W.s.rems ds).ins u v wt t (t + W.m)).M.find v = some b ∧ WStep w w' pw ((W.tick t ds Q').put u v wt a b) K))
theorem wat_add (h : WinAt w pw W K) (u v : Nat) (hu : u < 18446744073709551616) (hv : v < 18446744073709551616) (hne : u ≠ v) (wt t : Int) (ht1 : -9223372036854775808 ≤ t) (ht2 : t ≤ 9223372036854775807) (hc : chkT W.m W.now t = 0) (hl : W.s.last < 9223372036854775807) :
    Calls Tryz.prog 21 #[wptr pw, recA u v wt t] w fun e w' => ∃ c : Nat, e = .returned (.int .i64 c) ∧ AddTo w w' pw W K u v wt t c := by
 obtain ⟨hok, pc, ps, px, pf, nq, Ks, lx, Lf, cl, hB, rfl⟩ := h
 obtain ⟨hc1, hc2⟩ := chkT_ok hc
 have hI := (IS.start hB).box [.int .u64 u, .int .u64 v, .int .i64 wt, .int .i64 t] 42
 obtain ⟨w1, hw1⟩ : ∃ w1, w1 = w.alloc (.cells #[.int .u64 u, .int .u64 v, .int .i64 wt, .int .i64 t] 42) := ⟨_, rfl⟩
 rw [show w.alloc (.cells [.int .u64 u, .int .u64 v, .int .i64 wt, .int .i64 t].toArray 42) = w.alloc (.cells #[.int .u64 u, .int .u64 v, .int .i64 wt, .int .i64 t] 42) from rfl, ← hw1] at hI
 have hsx : w.heap.size < w1.heap.size := by rw [hw1]; simp
 have HF01 := Lib.hid (show Fr [] w w1 by rw [hw1]; exact (Fr.refl _ _).alloc _)
 obtain ⟨cl1, hB1⟩ := hI.1
 have hbx : Blk w1 w.heap.size 42 [.int .u64 u, .int .u64 v, .int .i64 wt, .int .i64 t] := hI.blk (z := (w.heap.size, 42, [.int .u64 u, .int .u64 v, .int .i64 wt, .int .i64 t])) (by simp)
 have HV := Lib.hid (wvalid_w hB1)
 have HCk := Lib.hid (fun (nq : Nat) => ccheck_w (hB1.clk.fr0 ((Fr.refl [] w1).drewN nq)) t ht1 ht2)
 rw [show chkT (W.wp nq).m (W.wp nq).now t = 0 from hc] at HCk
 have c4 := hB1.hd.cell 4
 have r0 := hbx.cell 0; have r1 := hbx.cell 1; have r3 := hbx.cell 3
 simp only [List.getElem?_cons_zero, List.getElem?_cons_succ] at c4 r0 r1 r3
 have hFs := hI.2.1.size
 have HI := Lib.hid hI
 have HH := Lib.hid (And.intro hok (And.intro hc1 hc2))
 have d1 : ((u : Int) == v) = false := by simp; omega
 have d2 : decide ((W.s.last : Int) ≥ 9223372036854775807) = false := decide_eq_false (by omega)
 have d3 : decide (W.s.last ≥ 9223372036854775807) = false := decide_eq_false (by omega)
 clear hB hI hB1 hbx hok hc
 go_enter Tryz.func21, Tryz.ntmps21
 obtain ⟨xb, hxb⟩ : ∃ xb, xb = w.heap.size := ⟨_, rfl⟩
 have HW1 := Lib.hid hw1
 rw [hw1] at r0 r1 HV
 clear hw1
 go_wp2_with fail
 refine HV.out.mono ?_
 rintro _ _ ⟨rfl, rfl⟩
 go_wp2_with fail
 rw [← HW1.out, ← hxb]
 rw [← HW1.out] at r0 r1
 rw [← hxb] at HI r0 r1 r3 hsx
 have HXB := Lib.hid hxb; clear hxb HV HW1
 refine region_one 6 (fun w' => ∃ nq, w' = w1.drewN nq) (by kernel_rfl) (by kernel_rfl) (by kernel_rfl) ?_
 iterate 6 (refine gWalk_pre (by decide) (fun K hK => ?_); go_simp; refine hK _ ?_; clear hK K)
 refine gWalk_write rfl (.int .i64 0) (fun w' hw' => ?_) ?_
 {
 obtain ⟨nq, rfl⟩ := hw'
 go_simp
 refine (HCk.out nq).mono ?_
 rintro _ _ ⟨rfl, rfl⟩
 exact ⟨rfl, nq, rfl⟩
 }
 iterate 1 (refine gWalk_post (by decide) (fun K hK => ?_); go_simp; refine hK _ ?_; clear hK K)
 refine gWalk_nil ?_
 rintro _ ⟨nq2, rfl⟩
 have hI2 := HI.out.fr0 ((Fr.refl [] w1).drewN nq2)
 have HF02 := Lib.hid (HF01.out.drewN nq2)
 clear c4 r0 r1 r3 HCk HI HF01
 generalize w1.drewN nq2 = W2 at *
 obtain ⟨cl2, hB2⟩ := hI2.1
 have hbx : Blk W2 xb 42 [.int .u64 u, .int .u64 v, .int .i64 wt, .int .i64 t] := hI2.blk (z := (xb, 42, [.int .u64 u, .int .u64 v, .int .i64 wt, .int .i64 t])) (by simp)
 have c8 := hB2.hd.cell 8
 have r0 := hbx.cell 0; have r1 := hbx.cell 1; have r2 := hbx.cell 2; have r3 := hbx.cell 3
 simp only [List.getElem?_cons_zero, List.getElem?_cons_succ] at c8 r0 r1 r2 r3
 rw [show (W.wp nq).added = W.s.last from rfl] at c8
 have HR := Lib.hid (wroom_w hB2 HH.out.1.lk HH.out.1.ok u v hu hv wt t)
 have HI2 := Lib.hid hI2
 clear hI2 hB2 hbx
 go_wp2_with fail
 refine HR.out.mono ?_
 rintro _ W3 ⟨c, rfl, hF3, hres⟩
 have hI3 := HI2.out.fr0 hF3
 have HF03 := Lib.hid (HF02.out.trans' hF3)
 have HRes := Lib.hid hres
 clear hF3 hres HR HF02 HI2 c8 r0 r1 r2 r3
 by_cases hc : c = 0
 {
 subst hc
 obtain ⟨cl3, hB3⟩ := hI3.1
 have hbx : Blk W3 xb 42 [.int .u64 u, .int .u64 v, .int .i64 wt, .int .i64 t] := hI3.blk (z := (xb, 42, [.int .u64 u, .int .u64 v, .int .i64 wt, .int .i64 t])) (by simp)
 have r3 := hbx.cell 3
 simp only [List.getElem?_cons_zero, List.getElem?_cons_succ] at r3
 have HT := Lib.hid (wtick_yes hB3 HH.out.1.lk HH.out.1.ok t ht1 ht2 (by unfold chkT; rw [if_neg (by have := HH.out.2.1; show ¬ t < W.now; omega)]; unfold sumC; exact if_pos HH.out.2.2) HH.out.1.sum)
 have HI3 := Lib.hid hI3
 clear hI3 hB3 hbx
 go_wp2_with fail
 refine HT.out.mono ?_
 rintro _ W4 ⟨rfl, ds, Q', n', Ks4, lx4, Lf4, cl4, hm, hB4, hF4, hn4⟩
 rw [tick_wp] at hB4
 obtain ⟨k1, k2, k3⟩ := Wm.tick_ok HH.out.1 HH.out.2.1 HH.out.2.2 hm
 have hI4 := HI3.out.step ⟨cl4, hB4⟩ hF4 (fun q hq => hq) hn4
 have hck : (W.s.rems ds).chk u v = 0 := by {
 rcases HRes.out with ⟨h1, _⟩ | ⟨es, Q2, _, h2, h3⟩
 {
 refine chk_less HH.out.1.ok k1.ok (rems_keep W.s ds).1 (rems_keep W.s ds).2.1 (fun e he => rems_sub ds he) ?_ h1
 have := (hm.law HH.out.1.lk HH.out.1.ok).2.2.2
 show (W.s.rems ds).L.length ≤ _
 omega
 }
 · rw [(hm.uniq h2).1]; exact h3.symm
 }
 have hbx : Blk W4 xb 42 [.int .u64 u, .int .u64 v, .int .i64 wt, .int .i64 t] := hI4.blk (z := (xb, 42, [.int .u64 u, .int .u64 v, .int .i64 wt, .int .i64 t])) (by simp)
 clear r3
 have r0 := hbx.cell 0; have r1 := hbx.cell 1; have r2 := hbx.cell 2; have r3 := hbx.cell 3
 simp only [List.getElem?_cons_zero, List.getElem?_cons_succ] at r0 r1 r2 r3
 have hls : (W.tick t ds Q').s.last = W.s.last := k3
 have h0 := HH.out.1.n0
 have HN := Lib.hid (winsert_w hB4 k1.lk k1.ok k1.hV k1.hE u v hu hv wt t (by have := HH.out.2.1; omega) HH.out.2.2 hck (by show (W.tick t ds Q').s.last + 1 ≤ _; omega) (by show (W.tick t ds Q').s.last + 1 ≤ _; omega))
 have H4 := Lib.hid (And.intro hm (And.intro k1 (And.intro hck (And.intro hI4 hls))))
 clear hm hB4 hF4 hn4 k1 k2 k3 hI4 hck hbx HT HI3 hls h0
 go_wp2_with fail
 refine HN.out.mono ?_
 rintro _ W5 ⟨rfl, a, b, Ks5, lx5, Lf5, ha, hb, hI5⟩
 have HX := Lib.hid (And.intro ha (And.intro hb hI5))
 clear ha hb hI5 HN r0 r1 r2 r3
 go_wp2
 go_ret
 obtain ⟨hm, k1, hck, hI4, hls⟩ := H4.out
 obtain ⟨ha, hb, hI5⟩ := HX.out
 obtain ⟨⟨cl5, hB5⟩, hF5, hn5, _⟩ := hI5
 have hP := put_wp (W.tick t ds Q') u v wt a b n'
 have hB6 : WinB W5 pw pc ps px pf (((W.tick t ds Q').put u v wt a b).wp (n' + 1)) Ks5 lx5 Lf5 cl5 := by rw [← hP]; exact hB5
 refine ⟨0, rfl, ds, Q', hm, .inr ⟨rfl, hck, a, b, ha, hb, winK pw pc Ks5 lx5 Lf5, ⟨Wm.put_ok k1 hu hv wt hck (by omega) ha hb, pc, ps, px, pf, n' + 1, Ks5, lx5, Lf5, cl5, hB6, rfl⟩, ?_, ?_⟩⟩
 · exact hI4.2.1.trans hF5 hI4.2.2.1
 {
 intro q hq
 rcases hn5 q hq with h | h
 · exact hI4.2.2.1 q h
 · exact .inr (Nat.le_trans hI4.2.1.size h)
 }
 }
 {
 have d4 : ((c : Int) != 0) = true := by simp; omega
 clear hI3
 have HC := Lib.hid hc; clear hc
 go_wp2
 go_ret
 rcases HRes.out with ⟨_, h1⟩ | ⟨ds, Q', h1, h2, h3⟩
 · exact absurd h1 HC.out
 · exact ⟨c, rfl, ds, Q', h2, .inl ⟨HC.out, h1, h3, HF03.out⟩⟩
 }
end
set_option maxHeartbeats 1000000
theorem Tryz.infoe27 : ∃ i, Tryz.prog.info? 27 = some i := Option.isSome_iff_exists.1 (by kernel_rfl)
@[go_sem] theorem eqIn_errs (w : World) : (Op.equalIn 10000 169 (.agg #[.int .i64 0, .int .i64 0, .int .i64 0, .int .i64 0]) (.agg #[.int .i64 0, .int .i64 0, .int .i64 0, .int .i64 0])).run Tryz.prog w = .ok true w := by
 obtain ⟨i, hi⟩ := Tryz.infoe27
 have u3 := Tryz.underlying27
 have a3 := Tryz.isAgg27
 have z3 := Tryz.sizeOf27
 have hc : Tryz.prog.cellsOf 27 = 1 := by kernel_rfl
 rw [show (10000 : Nat) = 9999 + 1 from rfl, run_equalIn_array w 9999 _ _ Tryz.underlying169 hi, hc]
 have r2 : List.range 4 = [0, 1, 2, 3] := rfl
 rw [r2]
 simp only [Op.eqItems]
 go_simp
@[go_sem] theorem guard_errs (x y : Operand) (xs ys : Array Value) (w : World) : (eqGuard .neq 169 x y (.agg xs) (.agg ys)).run Tryz.prog w = .ok () w := run_eqGuard_agg w .neq 169 x y xs ys (by kernel_rfl)
theorem cfg_w (m D : Int) (E V : Nat) (w : World) (h1 : 1 ≤ m) (h2 : 1 ≤ E) (h3 : E ≤ 16384) (h4 : 2 ≤ V) (h5 : V ≤ 4096) (h6 : 0 ≤ D) (h7 : D ≤ 16384) :
    Calls Tryz.prog 119 #[.agg #[.int .i64 m, .int .i64 E, .int .i64 V, .int .i64 D]] w fun e w' => e = .returned (.bool true) ∧ Fr [] w w' := by
 have d1 : decide (m ≥ 1) = true := decide_eq_true h1
 have d2 : decide ((E : Int) ≥ 1) = true := decide_eq_true (by omega)
 have d3 : decide ((E : Int) ≤ 16384) = true := decide_eq_true (by omega)
 have d4 : decide ((V : Int) ≥ 2) = true := decide_eq_true (by omega)
 have d5 : decide ((V : Int) ≤ 4096) = true := decide_eq_true (by omega)
 have d6 : decide (D ≥ 0) = true := decide_eq_true h6
 have d7 : decide (D ≤ 16384) = true := decide_eq_true h7
 go_enter Tryz.func119, Tryz.ntmps119
 go_wp2
 go_ret
 exact ⟨rfl, (Fr.refl _ _).alloc _⟩
structure NS (w0 w : World) (b be bc : Nat) (l : List Value) (m D : Int) (E V : Nat) : Prop where
  hd : Blk w b 83 l
  er : Blk w be 169 [.int .i64 0, .int .i64 0, .int .i64 0, .int .i64 0]
  co : Blk w bc 55 [.int .i64 m, .int .i64 E, .int .i64 V, .int .i64 D]
  fr : Fr [] w0 w
  lb : w0.heap.size ≤ bc
  le : bc < be
  lw : be < b
theorem NS.go {w0 w w' : World} {b be bc : Nat} {l : List Value} {m D : Int} {E V : Nat} (h : NS w0 w b be bc l m D E V) (hf : Fr [] w w') : NS w0 w' b be bc l m D E V :=
  ⟨hf.blk h.hd (by simp), hf.blk h.er (by simp), hf.blk h.co (by simp), h.fr.trans' hf, h.lb, h.le, h.lw⟩
theorem NS.put {w0 w : World} {b be bc : Nat} {l : List Value} {m D : Int} {E V : Nat} (h : NS w0 w b be bc l m D E V) (i j : Nat) (v : Value) (hj : j < 4) :
    NS w0 ((w.setCell ⟨b, i, none⟩ v).setCell ⟨be, j, none⟩ (.int .i64 0)) b be bc (l.set i v) m D E V ∧ Fr [b, be] w ((w.setCell ⟨b, i, none⟩ v).setCell ⟨be, j, none⟩ (.int .i64 0)) := by
 have h1 := h.lb; have h2 := h.le; have h3 := h.lw
 have f1 : Fr [b] w (w.setCell ⟨b, i, none⟩ v) := (Fr.refl _ _).setCell _ _ (.inl (by simp))
 have f2 : Fr [be] (w.setCell ⟨b, i, none⟩ v) ((w.setCell ⟨b, i, none⟩ v).setCell ⟨be, j, none⟩ (.int .i64 0)) := (Fr.refl _ _).setCell _ _ (.inl (by simp))
 have he := (f1.blk h.er (by simp; omega)).set j (.int .i64 0)
 refine ⟨⟨f2.blk (h.hd.set i v) (by simp; omega), ?_, f2.blk (f1.blk h.co (by simp; omega)) (by simp; omega), (h.fr.setCell _ _ (.inr (by simp; omega))).setCell _ _ (.inr (by simp; omega)), h1, h2, h3⟩, ((Fr.refl _ _).setCell _ _ (.inl (by simp))).setCell _ _ (.inl (by simp))⟩
 match j, hj with
 | 0, _ => exact he
 | 1, _ => exact he
 | 2, _ => exact he
 | 3, _ => exact he
theorem NS.mid {w0 w : World} {b be bc : Nat} {l : List Value} {m D : Int} {E V : Nat} (h : NS w0 w b be bc l m D E V) (i : Nat) (v : Value) : NS w0 (w.setCell ⟨b, i, none⟩ v) b be bc (l.set i v) m D E V := by
 have h1 := h.lb; have h2 := h.le; have h3 := h.lw
 have f1 : Fr [b] w (w.setCell ⟨b, i, none⟩ v) := (Fr.refl _ _).setCell _ _ (.inl (by simp))
 exact ⟨h.hd.set i v, f1.blk h.er (by simp; omega), f1.blk h.co (by simp; omega), h.fr.setCell _ _ (.inr (by simp; omega)), h1, h2, h3⟩
theorem wfrom_w (m D : Int) (E V g : Nat) (w : World) (h1 : 1 ≤ m) (h1' : m ≤ 9223372036854775807) (h2 : 1 ≤ E) (h3 : E ≤ 16384) (h4 : 2 ≤ V) (h5 : V ≤ 4096) (h6 : 0 ≤ D) (h7 : D ≤ 16384) (hg : g ≤ 9223372036854775807) :
    Calls Tryz.prog 68 #[.agg #[.int .i64 m, .int .i64 E, .int .i64 V, .int .i64 D], .int .u64 g] w fun e w' => ∃ pw, e = .returned (.tuple #[wptr pw, .int .i64 0]) ∧ ∃ K, WinAt w' pw (Wm.new m E V D g) K ∧ Fr [] w w' ∧ ∀ q ∈ K, w.heap.size ≤ q := by
 have HC := Lib.hid (cfg_w m D E V (w.alloc (.cells #[.int .i64 m, .int .i64 E, .int .i64 V, .int .i64 D] 55)) h1 h2 h3 h4 h5 h6 h7)
 have bc := Blk.new w [.int .i64 m, .int .i64 E, .int .i64 V, .int .i64 D] 55
 have HNC := Lib.hid (fun w' => cnew_w m h1 h1' w')
 have HNS := Lib.hid (fun w' => st_from V E g w' h5 h3 hg)
 have HNX := Lib.hid (fun w' => xnew_w E w' (by omega))
 have HNF := Lib.hid (fun w' => fnew_w V E w' h5 h3)
 have HOK := Lib.hid (Wm.new_ok (m := m) (E := E) (V := V) (D := D) (gone := g) h1 h1' h3 h5 hg)
 go_enter Tryz.func68, Tryz.ntmps68
 go_wp2_with fail
 refine HC.out.mono ?_
 rintro _ w1 ⟨rfl, hF1⟩
 have hs1 := hF1.size
 simp only [World.size_alloc] at hs1
 obtain ⟨W, hW⟩ : ∃ W, W = (w1.alloc (.cells #[.int .i64 0, .int .i64 0, .int .i64 0, .int .i64 0] 169)).alloc (.cells #[.int .i64 m, .int .i64 E, .int .i64 V, .int .i64 D, .pointer none, .pointer none, .pointer none, .pointer none, .int .u64 g, .int .u64 g] 83) := ⟨_, rfl⟩
 have hN : NS w W (w1.heap.size + 1) w1.heap.size w.heap.size [.int .i64 m, .int .i64 E, .int .i64 V, .int .i64 D, .pointer none, .pointer none, .pointer none, .pointer none, .int .u64 g, .int .u64 g] m D E V := by {
 have k1 := (Blk.new w1 [.int .i64 0, .int .i64 0, .int .i64 0, .int .i64 0] 169).alloc (.cells #[.int .i64 m, .int .i64 E, .int .i64 V, .int .i64 D, .pointer none, .pointer none, .pointer none, .pointer none, .int .u64 g, .int .u64 g] 83)
 have k2 := Blk.new (w1.alloc (.cells #[.int .i64 0, .int .i64 0, .int .i64 0, .int .i64 0] 169)) [.int .i64 m, .int .i64 E, .int .i64 V, .int .i64 D, .pointer none, .pointer none, .pointer none, .pointer none, .int .u64 g, .int .u64 g] 83
 rw [World.size_alloc] at k2
 subst hW
 exact ⟨k2, k1, ((hF1.blk bc (by simp)).alloc _).alloc _, ((((Fr.refl _ _).alloc _).trans' hF1).alloc _).alloc _, Nat.le_refl _, by omega, by omega⟩
 }
 have x0 := ((hF1.blk bc (by simp)).alloc (.cells #[.int .i64 0, .int .i64 0, .int .i64 0, .int .i64 0] 169)).cell 0
 have x1 := ((hF1.blk bc (by simp)).alloc (.cells #[.int .i64 0, .int .i64 0, .int .i64 0, .int .i64 0] 169)).cell 1
 have x2 := ((hF1.blk bc (by simp)).alloc (.cells #[.int .i64 0, .int .i64 0, .int .i64 0, .int .i64 0] 169)).cell 2
 have x3 := ((hF1.blk bc (by simp)).alloc (.cells #[.int .i64 0, .int .i64 0, .int .i64 0, .int .i64 0] 169)).cell 3
 have y0 := hN.co.cell 0
 rw [hW] at y0
 simp only [List.getElem?_cons_zero, List.getElem?_cons_succ] at x0 x1 x2 x3 y0
 have HN := Lib.hid hN
 clear hN bc hF1 HC
 go_wp2_with fail
 clear x0 x1 x2 x3 y0
 rw [← hW]
 clear hW
 generalize hb : w1.heap.size + 1 = b at *
 generalize hbe : w1.heap.size = be at *
 generalize hbc : w.heap.size = bc at *
 clear hb hbe
 refine (HNC.out W).mono ?_
 rintro _ W1 ⟨pc, rfl, hc, hF1, hpc⟩
 have hN1 := HN.out.go hF1
 have hp1 := hN1.put 4 0 (cptr pc) (by decide)
 have b4 := hN1.hd.cell 4; have z4 := hN1.hd.frozen 4
 have e0 := (hN1.mid 4 (cptr pc)).er.cell 0; have f0 := (hN1.mid 4 (cptr pc)).er.frozen 0
 have c1 := hp1.1.co.cell 1; have c2 := hp1.1.co.cell 2
 simp only [List.getElem?_cons_zero, List.getElem?_cons_succ, List.set_cons_succ, List.set_cons_zero] at b4 e0 c1 c2 hp1
 have H1 := Lib.hid (And.intro hc (And.intro hF1 (And.intro hpc hp1)))
 have HNb := Lib.hid (And.intro HN.out.hd.lt HN.out.lw)
 clear hc hF1 hpc hN1 hp1 HNC HN
 go_wp2_with fail
 clear b4 z4 e0 f0 c1 c2
 generalize (W1.setCell ⟨b, 4, none⟩ (cptr pc)).setCell ⟨be, 0, none⟩ (.int .i64 0) = V1 at *
 refine (HNS.out V1).mono ?_
 rintro _ W2 ⟨ps, rfl, Ks, hc, hF2, hk2⟩
 have hN2 := H1.out.2.2.2.1.go hF2
 have hp2 := hN2.put 5 1 (sptr ps) (by decide)
 have b4 := hN2.hd.cell 5; have z4 := hN2.hd.frozen 5
 have e0 := (hN2.mid 5 (sptr ps)).er.cell 1; have f0 := (hN2.mid 5 (sptr ps)).er.frozen 1
 have c1 := hp2.1.co.cell 1
 simp only [List.getElem?_cons_zero, List.getElem?_cons_succ, List.set_cons_succ, List.set_cons_zero] at b4 e0 c1 hp2
 have H2 := Lib.hid (And.intro hc (And.intro hF2 (And.intro hk2 hp2)))
 clear hc hF2 hk2 hN2 hp2 HNS
 go_wp2_with fail
 clear b4 z4 e0 f0 c1
 generalize (W2.setCell ⟨b, 5, none⟩ (sptr ps)).setCell ⟨be, 1, none⟩ (.int .i64 0) = V2 at *
 refine (HNX.out V2).mono ?_
 rintro _ W3 ⟨px, rfl, lx, hc, hF3, hk3⟩
 have hN3 := H2.out.2.2.2.1.go hF3
 have hp3 := hN3.put 6 2 (hptr px) (by decide)
 have b4 := hN3.hd.cell 6; have z4 := hN3.hd.frozen 6
 have e0 := (hN3.mid 6 (hptr px)).er.cell 2; have f0 := (hN3.mid 6 (hptr px)).er.frozen 2
 have c1 := hp3.1.co.cell 1; have c2 := hp3.1.co.cell 2
 simp only [List.getElem?_cons_zero, List.getElem?_cons_succ, List.set_cons_succ, List.set_cons_zero] at b4 e0 c1 c2 hp3
 have H3 := Lib.hid (And.intro hc (And.intro hF3 (And.intro hk3 hp3)))
 clear hc hF3 hk3 hN3 hp3 HNX
 go_wp2_with fail
 clear b4 z4 e0 f0 c1 c2
 generalize (W3.setCell ⟨b, 6, none⟩ (hptr px)).setCell ⟨be, 2, none⟩ (.int .i64 0) = V3 at *
 refine (HNF.out V3).mono ?_
 rintro _ W4 ⟨pf, rfl, Lf, hc, hF4, hk4⟩
 have hN4 := H3.out.2.2.2.1.go hF4
 have hp4 := hN4.put 7 3 (fptr pf) (by decide)
 have b4 := hN4.hd.cell 7; have z4 := hN4.hd.frozen 7
 have e0 := (hN4.mid 7 (fptr pf)).er.cell 3; have f0 := (hN4.mid 7 (fptr pf)).er.frozen 3
 have g0 := hp4.1.er.cell 0; have g1 := hp4.1.er.cell 1; have g2 := hp4.1.er.cell 2; have g3 := hp4.1.er.cell 3
 simp only [List.getElem?_cons_zero, List.getElem?_cons_succ, List.set_cons_succ, List.set_cons_zero] at b4 e0 g0 g1 g2 g3 hp4
 have H4 := Lib.hid (And.intro hc (And.intro hF4 (And.intro hk4 hp4)))
 clear hc hF4 hk4 hN4 hp4 HNF
 go_wp2_with fail
 clear b4 z4 e0 f0 g0 g1 g2 g3
 generalize (W4.setCell ⟨b, 7, none⟩ (fptr pf)).setCell ⟨be, 3, none⟩ (.int .i64 0) = V4 at *
 go_ret2
 obtain ⟨hc1, hF1, hpc, hn1, hG1⟩ := H1.out
 obtain ⟨hc2, hF2, hk2, hn2, hG2⟩ := H2.out
 obtain ⟨hc3, hF3, hk3, hn3, hG3⟩ := H3.out
 obtain ⟨hc4, hF4, hk4, hn4, hG4⟩ := H4.out
 have hbW := HNb.out.1; have hbb := HNb.out.2
 have s1 := hF1.size; have s2 := hF2.size; have s3 := hF3.size; have s4 := hF4.size
 have t1 := hG1.size; have t2 := hG2.size; have t3 := hG3.size; have t4 := hG4.size
 have e1 := hc1.hd.lt
 have hlb := hn4.lb; have hle := hn4.le
 have a1 : ∀ q, W.heap.size ≤ q → q ∉ [b, be] := fun q hq hm => by
   simp only [List.mem_cons, List.not_mem_nil, or_false] at hm
   rcases hm with rfl | rfl <;> omega
 have k2 : ∀ q ∈ Ks, W1.heap.size ≤ q := fun q hq => Nat.le_trans t1 (hk2 q hq)
 have k3 : ∀ q ∈ lx, W2.heap.size ≤ q := fun q hq => Nat.le_trans t2 (hk3 q hq)
 have k4 : ∀ q ∈ Lf, W3.heap.size ≤ q := fun q hq => Nat.le_trans t3 (hk4 q hq)
 refine ⟨b, rfl, winK b pc Ks lx Lf, ⟨HOK.out, pc, ps, px, pf, 0, Ks, lx, Lf, fun x => if x = b then 0 else if x = pc then 1 else if x < W2.heap.size then 2 else if x < W3.heap.size then 3 else 4, ⟨hn4.hd, ?_, ?_, ?_, ?_, by simp, ?_, ?_, ?_, ?_⟩, rfl⟩, hn4.fr, ?_⟩
 · exact ((((((hc1.fr hG1 (a1 _ (by omega))).fr0 hF2).fr hG2 (a1 _ (by omega))).fr0 hF3).fr hG3 (a1 _ (by omega))).fr0 hF4).fr hG4 (a1 _ (by omega))
 · exact ((((hc2.fr hG2 (fun q hq => a1 q (by have := k2 q hq; omega))).fr0 hF3).fr hG3 (fun q hq => a1 q (by have := k2 q hq; omega))).fr0 hF4).fr hG4 (fun q hq => a1 q (by have := k2 q hq; omega))
 · exact ((hc3.fr hG3 (fun q hq => a1 q (by have := k3 q hq; omega))).fr0 hF4).fr hG4 (fun q hq => a1 q (by have := k3 q hq; omega))
 · exact hc4.fr hG4 (fun q hq => a1 q (by have := k4 q hq; omega))
 · rw [if_neg (by omega), if_pos rfl]
 {
 intro q hq
 have := k2 q hq; have := hc2.lt q hq
 rw [if_neg (by omega), if_neg (by omega), if_pos (by omega)]
 }
 {
 intro q hq
 have := k3 q hq; have := hc3.lt q hq
 rw [if_neg (by omega), if_neg (by omega), if_neg (by omega), if_pos (by omega)]
 }
 {
 intro q hq
 have := k4 q hq
 rw [if_neg (by omega), if_neg (by omega), if_neg (by omega), if_neg (by omega)]
 }
 {
 intro q hq
 simp only [winK, List.mem_cons, List.mem_append] at hq
 rcases hq with rfl | rfl | hq | hq | hq
 · omega
 · omega
 · have := k2 q hq; omega
 · have := k3 q hq; omega
 · have := k4 q hq; omega
 }
theorem wnew_w (m D : Int) (E V : Nat) (w : World) (h1 : 1 ≤ m) (h1' : m ≤ 9223372036854775807) (h2 : 1 ≤ E) (h3 : E ≤ 16384) (h4 : 2 ≤ V) (h5 : V ≤ 4096) (h6 : 0 ≤ D) (h7 : D ≤ 16384) :
    Calls Tryz.prog 29 #[.agg #[.int .i64 m, .int .i64 E, .int .i64 V, .int .i64 D]] w fun e w' => ∃ pw, e = .returned (.tuple #[wptr pw, .int .i64 0]) ∧ ∃ K, WinAt w' pw (Wm.new m E V D 0) K ∧ Fr [] w w' ∧ ∀ q ∈ K, w.heap.size ≤ q := by
 have HF := Lib.hid (wfrom_w m D E V 0 (w.alloc (.cells #[.int .i64 m, .int .i64 E, .int .i64 V, .int .i64 D] 55)) h1 h1' h2 h3 h4 h5 h6 h7 (by decide))
 have x0 := (Blk.new w [.int .i64 m, .int .i64 E, .int .i64 V, .int .i64 D] 55).cell 0
 have x1 := (Blk.new w [.int .i64 m, .int .i64 E, .int .i64 V, .int .i64 D] 55).cell 1
 have x2 := (Blk.new w [.int .i64 m, .int .i64 E, .int .i64 V, .int .i64 D] 55).cell 2
 have x3 := (Blk.new w [.int .i64 m, .int .i64 E, .int .i64 V, .int .i64 D] 55).cell 3
 simp only [List.getElem?_cons_zero, List.getElem?_cons_succ] at x0 x1 x2 x3
 go_enter Tryz.func29, Tryz.ntmps29
 go_wp2_with fail
 refine HF.out.mono ?_
 rintro _ w1 ⟨pw, rfl, K, h1, h2, h3⟩
 have HH := Lib.hid (And.intro h1 (And.intro h2 h3)); clear h1 h2 h3 x0 x1 x2 x3
 go_wp2
 go_ret2
 exact ⟨pw, rfl, K, HH.out.1, ((Fr.refl _ _).alloc _).trans' HH.out.2.1, fun q hq => by have := HH.out.2.2 q hq; simp at this; omega⟩
end Go.Proofs.YtgmnemndjjmgkaaGreat
