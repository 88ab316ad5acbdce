/- The statement 'InternNews': for every input the call returns true, and each argument reads afterwards as it read before. -/
import Derived.Test.YtciacnnelpijeaaInternNewsZ11
import Derived.Test.YtciacnnelpijeaaInternNewsZ1
/- A table and the document's, or none of both: New, Put, Del, Copy, agree. -/
namespace Go.Proofs.Ytciacnnelpijeaa
open Go.RowKit
set_option maxRecDepth 10000
set_option maxHeartbeats 800000

/-- None of the blocks of the two is n. -/
def PairI (W : World) (n : Nat) (wr : World) (qt qr : Option Addr) : Prop :=
  (qt = none ∧ qr = none ∧ Fr [] W wr) ∨ ∃ pt l pr vL vF M, qt = some ⟨pt, 0, none⟩ ∧ qr = some ⟨pr, 0, none⟩ ∧ BothI W wr pt l pr vL vF M ∧ (∀ b ∈ l, b ≠ n) ∧ ∀ q ∈ rTB pr vL vF, q ≠ n
theorem PairI.fr {W wr : World} {n : Nat} {qt qr : Option Addr} (h : PairI W n wr qt qr) : Fr [] W wr := by
  obtain ⟨rfl, rfl, hf⟩ | ⟨pt, l, pr, vL, vF, M, rfl, rfl, hB, _⟩ := h
  · exact hf
  · exact hB.fr
theorem PairI.keep {W wr w' : World} {n : Nat} {qt qr : Option Addr} (h : PairI W n wr qt qr) (hf : Fr [] wr w') : PairI W n w' qt qr := by
  obtain ⟨rfl, rfl, h2⟩ | ⟨pt, l, pr, vL, vF, M, rfl, rfl, hB, h3⟩ := h
  · exact .inl ⟨rfl, rfl, h2.trans' hf⟩
  · exact .inr ⟨pt, l, pr, vL, vF, M, rfl, rfl, hB.keep hf, h3⟩
theorem PairI.now {W wr : World} {n m : Nat} {qt qr : Option Addr} (h : PairI W n wr qt qr) (hm : wr.heap.size ≤ m) : PairI W m wr qt qr := by
  obtain h | ⟨pt, l, pr, vL, vF, M, h1, h2, hB, h3, h4⟩ := h
  · exact .inl h
  · exact .inr ⟨pt, l, pr, vL, vF, M, h1, h2, hB, fun b hb => by have := hB.tab.lt b hb; omega, fun b hb => by have := hB.ref.lt b hb; omega⟩

/-- Block n is as it was. -/
def Kept (n : Nat) (w w' : World) : Prop := n < w.heap.size → n < w'.heap.size ∧ w'.heap[n]? = w.heap[n]?
theorem Kept.blk {w w' : World} {b : Nat} (h : Kept b w w') {t : TypeId} {l : List Value} (hb : Blk w b t l) : Blk w' b t l := hb.of_same (h hb.lt).2
theorem Kept.refl (n : Nat) (w : World) : Kept n w w := fun h => ⟨h, rfl⟩
theorem Kept.of_fr {n : Nat} {S : List Nat} {w w' : World} (h : Fr S w w') (hs : ∀ q ∈ S, q ≠ n) : Kept n w w' := fun hn => ⟨Nat.lt_of_lt_of_le hn h.size, h.keep n hn (fun hm => hs n hm rfl)⟩

section
variable {W wr w1 w2 : World} {n : Nat} {pt : Nat} {l l' : List Nat} {pr : Nat} {vL vF vL' vF' : Value} {M M' : Md}
/-- Both were changed, the table first. -/
theorem BothI.did (h : BothI W wr pt l pr vL vF M) (ht : TabM w1 pt M' l') (h1 : Next l l' wr w1) (hr : RTab w2 pr vL' vF' M') (h2 : Fr (rTB pr vL vF) w1 w2) (hq : ∀ q ∈ rTB pr vL' vF', q ∈ rTB pr vL vF ∨ w1.heap.size ≤ q) : BothI W w2 pt l' pr vL' vF' M' := by
  have hlt := h.ref.lt
  have hl2 := ht.lt
  have hs1 := h1.1.size
  have hs0 := h.fr.size
  refine ⟨ht.fr h2 (fun b hb hm => ?_), hr, (h.fr.trans h1.1 (fun q hq => .inr (h.newT q hq))).trans h2 (fun q hq => .inr (h.newR q hq).1), fun b hb => ?_, fun q hqq => ?_⟩
  · rcases h1.2 b hb with e | e
    · exact (h.newR b hm).2 e
    · have := hlt b hm; omega
  · rcases h1.2 b hb with e | e
    · exact h.newT b e
    · omega
  · rcases hq q hqq with e | e
    · refine ⟨(h.newR q e).1, fun hm => ?_⟩
      rcases h1.2 q hm with e2 | e2
      · exact (h.newR q e).2 e2
      · have := hlt q e; omega
    · exact ⟨by omega, fun hm => by have := hl2 q hm; omega⟩
end

theorem newI (W : World) (n : Int) : Calls Try.prog 14 #[.int .i64 n] W fun e w1 => ∃ qt c, e = .returned (.tuple #[.pointer qt, .int .i64 (c : Nat)]) ∧
    Calls Try.prog 23 #[.int .i64 n] w1 fun e w2 => ∃ qr, e = .returned (.tuple #[.pointer qr, .int .i64 (c : Nat)]) ∧ PairI W w2.heap.size w2 qt qr ∧ Fr [] W w2 ∧ ((qt = none ∧ qr = none) ∨ ∃ pt pr, qt = some ⟨pt, 0, none⟩ ∧ qr = some ⟨pr, 0, none⟩) := by
  by_cases hbad : n < 0 ∨ 65536 < n
  · refine (table_new_no n W hbad).mono ?_
    rintro _ w1 ⟨rfl, rfl⟩
    refine ⟨none, 2, rfl, (rnew_bad _ n hbad).mono ?_⟩
    rintro _ w2 ⟨rfl, rfl⟩
    exact ⟨none, rfl, .inl ⟨rfl, rfl, Fr.refl _ _⟩, Fr.refl _ _, .inl ⟨rfl, rfl⟩⟩
  · obtain ⟨n, rfl⟩ : ∃ m : Nat, n = m := ⟨n.toNat, by omega⟩
    have hn : n ≤ 65536 := by omega
    refine (tab_new n W hn).mono ?_
    rintro _ w1 ⟨pt, rfl, l, h1, n1⟩
    refine ⟨_, 0, rfl, (rnew_w w1 n hn).mono ?_⟩
    rintro _ w2 ⟨pr, rfl, h2, f2, hp⟩
    have hl := h1.lt
    have hs1 := n1.1.size
    refine ⟨_, rfl, .inr ⟨pt, l, pr, _, _, Md.new n, rfl, rfl, ⟨h1.fr f2 (by simp), h2, n1.1.trans' f2, fun b hb => (n1.2 b hb).resolve_left (by simp), fun q hq => ?_⟩, fun b hb => ?_, fun q hq => ?_⟩, n1.1.trans' f2, .inr ⟨_, _, rfl, rfl⟩⟩
    · simp [rTB, Value.ownBlock] at hq
      subst hq
      exact ⟨by omega, fun hm => by have := hl _ hm; omega⟩
    · have := hl b hb; have := f2.size; omega
    · have := h2.lt q hq; omega

theorem agreeI {W wr : World} {n : Nat} {qt qr : Option Addr} (h : PairI W n wr qt qr) (id : Nat) (hid : id < 18446744073709551616) (i : Int) :
    Calls Try.prog 24 #[.pointer qt, .pointer qr, .int .u64 id, .int .i64 i] wr fun e w' => e = .returned (.bool true) ∧ PairI W n w' qt qr ∧ Kept n wr w' := by
  obtain ⟨rfl, rfl, h2⟩ | ⟨pt, l, pr, vL, vF, M, rfl, rfl, hB, h3⟩ := h
  · refine (nil_agree id i).mono ?_
    rintro _ w' ⟨rfl, hf⟩
    exact ⟨rfl, .inl ⟨rfl, rfl, h2.trans' hf⟩, Kept.of_fr hf (by simp)⟩
  · refine (agree_w hB id hid i).mono ?_
    rintro _ w' ⟨rfl, hf⟩
    exact ⟨rfl, .inr ⟨pt, l, pr, vL, vF, M, rfl, rfl, hB.keep hf, h3⟩, Kept.of_fr hf (by simp)⟩

theorem putI {W wr : World} {n : Nat} {qt qr : Option Addr} (h : PairI W n wr qt qr) (hn : n < wr.heap.size) (id : Nat) (hid : id < 18446744073709551616) :
    Calls Try.prog 16 #[.pointer qt, .int .u64 id] wr fun e w1 => ∃ (i : Nat) (a : Bool) (g : Nat), e = .returned (.tuple #[.int .i64 i, .bool a, .int .i64 g]) ∧ Kept n wr w1 ∧
      Calls Try.prog 28 #[.pointer qr, .int .u64 id] w1 fun e w2 => e = .returned (.tuple #[.int .i64 i, .bool a, .int .i64 g]) ∧ Kept n w1 w2 ∧ PairI W n w2 qt qr := by
  obtain ⟨rfl, rfl, h2⟩ | ⟨pt, l, pr, vL, vF, M, rfl, rfl, hB, h3, h4⟩ := h
  · refine (bad_put _ _ _ (.inl rfl)).mono ?_
    rintro _ w1 ⟨rfl, rfl⟩
    refine ⟨0, false, 1, rfl, Kept.refl _ _, (rnil_put id).mono ?_⟩
    rintro _ w2 ⟨rfl, rfl⟩
    exact ⟨rfl, Kept.refl _ _, .inl ⟨rfl, rfl, h2⟩⟩
  · have hok := hB.tab.ok
    refine (tab_put id hid hB.tab).mono ?_
    rintro _ w1 ⟨rfl, l', h1, n1⟩
    refine ⟨_, _, _, rfl, Kept.of_fr n1.1 h3, (rput_w (hB.ref.fr n1.1 (fun q hq => (hB.newR q hq).2)) hok id).mono ?_⟩
    rintro _ w2 ⟨rfl, vL', vF', hr, hf, hq⟩
    have hB2 := hB.did h1 n1 hr hf hq
    have hs1 := n1.1.size
    exact ⟨rfl, Kept.of_fr hf h4, .inr ⟨pt, l', pr, vL', vF', _, rfl, rfl, hB2, fun b hb => (n1.2 b hb).elim (h3 b) (fun e => by omega), fun q hqq => (hq q hqq).elim (h4 q) (fun e => by omega)⟩⟩

theorem delI {W wr : World} {n : Nat} {qt qr : Option Addr} (h : PairI W n wr qt qr) (hn : n < wr.heap.size) (id : Nat) (hid : id < 18446744073709551616) :
    Calls Try.prog 15 #[.pointer qt, .int .u64 id] wr fun e w1 => ∃ (g : Nat), e = .returned (.int .i64 g) ∧ Kept n wr w1 ∧
      Calls Try.prog 29 #[.pointer qr, .int .u64 id] w1 fun e w2 => e = .returned (.int .i64 g) ∧ Kept n w1 w2 ∧ PairI W n w2 qt qr := by
  obtain ⟨rfl, rfl, h2⟩ | ⟨pt, l, pr, vL, vF, M, rfl, rfl, hB, h3, h4⟩ := h
  · refine (bad_del _ _ _ (.inl rfl)).mono ?_
    rintro _ w1 ⟨rfl, rfl⟩
    refine ⟨1, rfl, Kept.refl _ _, (rnil_del id).mono ?_⟩
    rintro _ w2 ⟨rfl, rfl⟩
    exact ⟨rfl, Kept.refl _ _, .inl ⟨rfl, rfl, h2⟩⟩
  · have hok := hB.tab.ok
    refine (tab_del id hid hB.tab).mono ?_
    rintro _ w1 ⟨rfl, h1, n1⟩
    refine ⟨_, rfl, Kept.of_fr n1.1 h3, (rdel_w (hB.ref.fr n1.1 (fun q hq => (hB.newR q hq).2)) hok id).mono ?_⟩
    rintro _ w2 ⟨rfl, vL', vF', hr, hf, hq⟩
    have hB2 := hB.did h1 n1 hr hf hq
    have hs1 := n1.1.size
    exact ⟨rfl, Kept.of_fr hf h4, .inr ⟨pt, l, pr, vL', vF', _, rfl, rfl, hB2, fun b hb => (n1.2 b hb).elim (h3 b) (fun e => by omega), fun q hqq => (hq q hqq).elim (h4 q) (fun e => by omega)⟩⟩

theorem copyI {W wr : World} {n : Nat} {qt qr : Option Addr} (h : PairI W n wr qt qr) (hn : n < wr.heap.size) :
    Calls Try.prog 26 #[.pointer qt] wr fun e w1 => ∃ qt', e = .returned (.pointer qt') ∧ Kept n wr w1 ∧
      Calls Try.prog 30 #[.pointer qr] w1 fun e w2 => ∃ qr', e = .returned (.pointer qr') ∧ Kept n w1 w2 ∧ PairI W n w2 qt' qr' := by
  obtain ⟨rfl, rfl, h2⟩ | ⟨pt, l, pr, vL, vF, M, rfl, rfl, hB, h3, h4⟩ := h
  · refine (bad_copy _ _ (.inl rfl)).mono ?_
    rintro _ w1 ⟨rfl, rfl⟩
    refine ⟨none, rfl, Kept.refl _ _, rnil_copy.mono ?_⟩
    rintro _ w2 ⟨rfl, rfl⟩
    exact ⟨none, rfl, Kept.refl _ _, .inl ⟨rfl, rfl, h2⟩⟩
  · have hok := hB.tab.ok
    refine (tab_copy hB.tab).mono ?_
    rintro _ w1 ⟨pt', rfl, l', h1, f1, hl1⟩
    refine ⟨_, rfl, Kept.of_fr f1 (by simp), (rcopy_w (hB.ref.fr0 f1) hok).mono ?_⟩
    rintro _ w2 ⟨pr', vL', vF', rfl, hr, f2, hq⟩
    have hs0 := hB.fr.size
    have hs1 := f1.size
    have ht2 := h1.fr f2 (by simp)
    refine ⟨_, rfl, Kept.of_fr f2 (by simp), .inr ⟨pt', l', pr', vL', vF', M, rfl, rfl, ⟨ht2, hr, (hB.fr.trans' f1).trans' f2, fun b hb => by have := hl1 b hb; omega, fun q hqq => ?_⟩, fun b hb => by have := hl1 b hb; omega, fun q hqq => by have := hq q hqq; omega⟩⟩
    have h5 := hq q hqq
    exact ⟨by omega, fun hm => by have := h1.lt q hm; omega⟩
end Go.Proofs.Ytciacnnelpijeaa

/- InternNews: the walk. -/
namespace Go.Proofs.Ytciacnnelpijeaa
open Go.RowKit
set_option maxRecDepth 10000
set_option maxHeartbeats 800000

theorem nat_u64 {a : Int} (h : (Lit.int .u64 a).wf = true) : ∃ m : Nat, a = m ∧ m < 18446744073709551616 := by
  have := bounds_u64 h
  exact ⟨a.toNat, by omega, by omega⟩

theorem walk_internNews (W : World) (n : Int) (_wn : (Lit.int .i64 n).wf = true) (a : Int) (wa : (Lit.int .u64 a).wf = true) (i : Int) (_wi : (Lit.int .i64 i).wf = true) :
    Calls Try.prog 8 #[.int .i64 n, .int .u64 a, .int .i64 i] W fun e w' => e = .returned (.bool true) ∧ Below W.heap.size W w' := by
  obtain ⟨id, rfl, hid⟩ := nat_u64 wa
  clear _wn _wi wa
  have HN := Lib.hid (newI W n)
  have HA := Lib.hid (fun (w2 : World) (qt qr : Option Addr) (h : PairI W w2.heap.size w2 qt qr) => agreeI h id hid i)
  clear hid
  go_enter Try.func8, Try.ntmps8
  go_wp2_with fail
  refine HN.out.mono ?_
  rintro _ w1 ⟨qt, c, rfl, hN2⟩
  have HN2 := Lib.hid hN2; clear hN2 HN
  go_wp2_with fail
  refine HN2.out.mono ?_
  rintro _ w2 ⟨qr, rfl, hP, hF, hq⟩
  have HP := Lib.hid hP; clear hP HN2
  have HF := Lib.hid hF; clear hF
  have t1 : ((c : Int) != (c : Int)) = false := by simp
  rcases hq with ⟨rfl, rfl⟩ | ⟨pt, pr, rfl, rfl⟩
  all_goals
    have HA2 := Lib.hid (HA.out _ _ _ HP.out)
    clear HA
    go_wp2_with fail
    refine HA2.out.mono ?_
    rintro _ w3 ⟨rfl, hP3, _⟩
    have HF3 := Lib.hid hP3.fr; clear hP3
    go_wp2_with fail
    refine (works_w _).mono ?_
    rintro _ w4 ⟨rfl, hB⟩
    go_wp2
    go_ret
    exact ⟨rfl, (HF3.out.below (by simp)).trans (hB.mono HF3.out.size)⟩
end Go.Proofs.Ytciacnnelpijeaa

namespace Go.Proofs.Ytciacnnelpijeaa.internNews
open Go.ChangeShapes Go.WideShapes Go.ChangeAt Go.RowKit
set_option linter.unusedVariables false

theorem own : ownKnob Try.prog.godebug = none := by kernel_rfl
theorem laidOut : laidOutB Try.prog = true := by kernel_rfl

set_option maxRecDepth 100000 in
theorem lifted (os : Os) (started : os.Started) (H : Type) (enc : TypeId × Value → H) :
    ReturnsInHanded {} Try.checked os 8 .any (Rows.internNewsSpec.pre6 enc Try.prog Try.f8 Rows.internNewsRow.domain false) (Rows.internNewsSpec.post enc Try.prog Try.f8 false true false false) := by
  refine returnsInHanded_of_change (C := Try.checked) own started (by kernel_rfl) Try.func8
    (ChangeSpec.witness6 (enc := enc) (C := Try.checked) false ⟨#[], #[.int .i64 0, .int .u64 0, .int .i64 0], []⟩ 8 (by kernel_rfl) (by kernel_rfl) (by kernel_rfl) (by kernel_rfl)) ?_
  intro W base args ds gs before hval0 hW hcnd _
  have hval : ∀ (j : Nat) t v, Try.f8.params[j]? = some t → args[j]? = some v → Value.okWide Try.prog W .any base t v := hval0
  have hW' := hW
  obtain ⟨p, q, hA0, hV, rfl, hfz, hnd⟩ := hW
  have hA : DataW.TrodAll enc Try.prog W 0 (fun _ => true) true Try.f8.params.toList args.toList ds p := hA0
  rw [Try.params8] at hA hval
  obtain ⟨v0, vs0, d0, ds0, p0, q0, hargs, rfl, rfl, h0, r0⟩ := trodAll_cons hA
  obtain ⟨v1, vs1, d1, ds1, p1, q1, rfl, rfl, rfl, h1, r1⟩ := trodAll_cons r0
  obtain ⟨v2, vs2, d2, ds2, p2, q2, rfl, rfl, rfl, h2, r2⟩ := trodAll_cons r1
  obtain ⟨rfl, rfl, rfl⟩ := trodAll_nil r2
  obtain rfl : args = #[v0, v1, v2] := by cases args; simp_all
  obtain ⟨rfl, rfl⟩ := trodVars_none hV
  obtain ⟨a0, rfl, rfl, rfl, w0⟩ := open_int Try.underlying3 (hval 0 3 v0 rfl rfl) h0
  obtain ⟨a1, rfl, rfl, rfl, w1⟩ := open_int Try.underlying23 (hval 1 23 v1 rfl rfl) h1
  obtain ⟨a2, rfl, rfl, rfl, w2⟩ := open_int Try.underlying3 (hval 2 3 v2 rfl rfl) h2
  clear hA0 hval0
  refine (walk_internNews W a0 w0 a1 w1 a2 w2).mono fun e W' ⟨he, bel⟩ => ?_
  subst he
  exact ⟨_, rfl, _, _, _, [], _, [], hW', trodAll_mk1 (shut_bool Try.underlying4 _), (trodAll_cons_mk (shut_int Try.underlying3 w0) (trodAll_cons_mk (shut_int Try.underlying23 w1) (trodAll_cons_mk (shut_int Try.underlying3 w2) trodAll_mk0))), rfl, bel.frame _, fun h => by cases h⟩

theorem over : Rows.internNewsRow.holds Try.pinned (OpenSpec.ofChange Rows.internNewsSpec) :=
  OpenClaim.holds_of_wide 8 Try.f8 rfl rfl rfl rfl rfl rfl rfl ⟨rfl, rfl, rfl, rfl, rfl⟩ rfl rfl rfl rfl rfl (by kernel_rfl) Try.func8 (by kernel_rfl)
    (of_decide_eq_true (by kernel_rfl)) (by unfold Func.isWrapper; first | (rw [if_pos (by decide +kernel)]; kernel_rfl) | (rw [if_neg (by decide +kernel)]; exact ⟨rfl, rfl⟩))
    (fun os started H enc _ => lifted os started H enc)

end Go.Proofs.Ytciacnnelpijeaa.internNews

namespace Go.Proofs.Ytciacnnelpijeaa
theorem internNews_holds : Rows.InternNewsSaid := internNews.over
#print axioms internNews_holds
end Go.Proofs.Ytciacnnelpijeaa
