/- lct: the forest as a list of splay trees, each with the vertex above its path. -/
import Derived.Test.YtoppjjgecgbbkaaLctCutsZ3
import Derived.Sort.QuietTacIn
import Derived.RangeFuncNested
import Derived.Test.YtoppjjgecgbbkaaLctCutsZ1
import Derived.RangeFuncBound
import Derived.RangeFuncCalls
import Derived.RangeFuncLeaves
import Derived.Shelf.Abstract
import Derived.Shelf.RegionOpen
import Derived.OwnWalkIn
import Derived.TacticsInMore
import Derived.LoopNIn
import Derived.LoopIn
import Derived.Deep.LoopGhost
/- lct: the rotations of a splay, as steps of trees. -/
namespace Go.Proofs.Ytoppjjgecgbbkaa
open Go.RowKit

theorem Out.congr {σ τ : Tbl} {u : Nat} {ns ms : List Nat} (h : Out σ u ns) (hr : Rotated σ τ ms) (hm : ∀ x, x ∈ ns ↔ x ∈ ms) : Out τ u ns := by
  rcases h with h | ⟨h1, h2, h3⟩
  · exact .inl h
  · right
    rw [hr.other u (fun e => h1 ((hm u).2 e))]
    exact ⟨h1, h2, h3⟩
theorem Out.perm {σ : Tbl} {u : Nat} {ns ms : List Nat} (h : Out σ u ns) (hm : ∀ x, x ∈ ns ↔ x ∈ ms) : Out σ u ms := by
  rcases h with h | ⟨h1, h2, h3⟩
  · exact .inl h
  · exact .inr ⟨fun e => h1 ((hm _).2 e), fun e => h2 ((hm _).2 e), fun e => h3 ((hm _).2 e)⟩

theorem side_frame {σ : Tbl} {a : Fm} {c : List Fm} {t : BT} {u : Nat} (h : Rep σ (plug (a :: c) t) u) (h0 : t.root ≠ 0) (hnd : (plug (a :: c) t).nodes.Nodup) : sideOf σ t.root = (sd a.s, true) ∧ (σ t.root).up = a.p := by
  obtain ⟨hT, hC⟩ := rep_plug.1 h
  obtain ⟨⟨hp0, _, _, hpk, hpo⟩, hRo, _⟩ := hC
  have hup : (σ t.root).up = a.p := by
    cases t with
    | nil => exact absurd rfl h0
    | node f l v r => exact hT.1.2.1
  refine ⟨?_, hup⟩
  refine sideOf_frame h0 hp0 hup hpk hpo ?_
  intro e
  have hor : a.o.root ≠ 0 := by rw [e]; exact h0
  have h1 := BT.root_mem hor
  have h2 := BT.root_mem h0
  have := (plug_nodes (a :: c) t).nodup_iff.1 hnd
  rw [List.nodup_append] at this
  exact this.2.2 _ h2 _ (by simp only [cnodes, List.cons_append, List.mem_cons, List.mem_append]; exact .inr (.inl h1)) e.symm

theorem InR.rotate {N : Nat} {σ : Tbl} (h : InR N σ) {i : Nat} (hi : i < N) (q0 : (rot3 σ i (σ i).up).k0 ≠ (σ i).up) (q1 : (rot3 σ i (σ i).up).k1 ≠ (σ i).up) (q2 : (rot3 σ i i).k0 ≠ i) (q3 : (rot3 σ i i).k1 ≠ i) : InR N (rotate σ i) := by
  have hp := (h i hi).2.2.1
  have hR1 := h.rot1 hi
  have hR2 : InR N (rot2 σ i) := hR1.hang hp (hR1.kid hi _)
  have hR3 : InR N (rot3 σ i) := hR2.hang hi hp
  unfold Proofs.Ytoppjjgecgbbkaa.rotate
  exact (hR3.refresh hp q0 q1).refresh hi (by rw [refresh_links.1]; exact q2) (by rw [refresh_links.2.1]; exact q3)

def RotOK (σ : Tbl) (i : Nat) : Prop := (rot3 σ i (σ i).up).k0 ≠ (σ i).up ∧ (rot3 σ i (σ i).up).k1 ≠ (σ i).up ∧ (rot3 σ i i).k0 ≠ i ∧ (rot3 σ i i).k1 ≠ i

/-- A node i on its way to the root; t₀ is the tree at the start. -/
structure Spin (N : Nat) (σ τ : Tbl) (u i : Nat) (t₀ : BT) (c : List Fm) (l r : BT) : Prop where
  rep : Rep τ (plug c (.node false l i r)) u
  ff : ∀ a ∈ c, a.f = false
  seq : (plug c (.node false l i r)).seq = t₀.seq
  perm : (plug c (.node false l i r)).nodes.Perm t₀.nodes
  rot : Rotated σ τ t₀.nodes
  inR : InR N τ

section
variable {N : Nat} {σ τ : Tbl} {u i : Nat} {t₀ : BT} {a b : Fm} {c : List Fm} {l r : BT}
theorem Spin.nd (h : Spin N σ τ u i t₀ c l r) (hnd : t₀.nodes.Nodup) : (plug c (.node false l i r)).nodes.Nodup := h.perm.nodup_iff.2 hnd
theorem Spin.out (h : Spin N σ τ u i t₀ c l r) (hO : Out σ u t₀.nodes) : Out τ u (plug c (.node false l i r)).nodes :=
  (hO.congr h.rot (fun _ => Iff.rfl)).perm (fun _ => h.perm.mem_iff.symm)
theorem Spin.zig (h : Spin N σ τ u i t₀ (a :: c) l r) (hnd : t₀.nodes.Nodup) (hO : Out σ u t₀.nodes) (hi : i < N) : RotOK τ i ∧ ∃ l' r', Spin N σ (rotate τ i) u i t₀ c l' r' := by
  obtain ⟨h1, h2, h3⟩ := rotate_rep h.rep (h.ff a (by simp)) (h.nd hnd) (h.out hO)
  obtain ⟨l', r', e⟩ : ∃ l' r', rotT a l i r = .node false l' i r' := by unfold rotT; split <;> exact ⟨_, _, rfl⟩
  have hn : (plug c (.node false l' i r')).nodes.Perm (plug (a :: c) (.node false l i r)).nodes := by
    rw [← e]; simp only [plug]
    refine (plug_nodes c _).trans (.trans ?_ (plug_nodes c _).symm)
    rw [rotT_nodes]
  refine ⟨h3, l', r', by rw [← e]; exact h1, fun b hb => h.ff b (by simp [hb]), ?_, hn.trans h.perm, ?_, h.inR.rotate hi h3.1 h3.2.1 h3.2.2.1 h3.2.2.2⟩
  · rw [← h.seq, ← e]; simp only [plug]; exact plug_seq c (rotT_seq a (h.ff a (by simp)) l i r)
  · exact h.rot.trans (h2.perm (fun _ => h.perm.mem_iff))
theorem Spin.zigp (h : Spin N σ τ u i t₀ (a :: b :: c) l r) (hs : a.s = b.s) (hnd : t₀.nodes.Nodup) (hO : Out σ u t₀.nodes) (hp : a.p < N) : RotOK τ a.p ∧ ∃ a', Spin N σ (rotate τ a.p) u i t₀ (a' :: c) l r := by
  have hrep := h.rep
  have hnd' := h.nd hnd
  have hO' := h.out hO
  have haf := h.ff a (by simp)
  have hbf := h.ff b (by simp)
  have hperm := h.perm
  have hseq := h.seq
  obtain ⟨s, f, p, o⟩ := a
  obtain ⟨s', f', p', o'⟩ := b
  dsimp only at haf hbf hs hp ⊢
  subst haf; subst hbf; subst hs
  have ff : ∀ x ∈ c, x.f = false := fun x hx => h.ff x (by simp [hx])
  cases s with
  | false =>
    have key := rotate_rep (σ := τ) (a := ⟨false, false, p', o'⟩) (c := c) (l := .node false l i r) (i := p) (r := o) (u := u) hrep rfl hnd' hO'
    obtain ⟨h1, h2, h3⟩ := key
    refine ⟨h3, ⟨false, false, p, .node false o p' o'⟩, h1, ?_, ?_, ?_, h.rot.trans (h2.perm (fun _ => hperm.mem_iff)), h.inR.rotate hp h3.1 h3.2.1 h3.2.2.1 h3.2.2.2⟩
    · intro x hx; rcases List.mem_cons.1 hx with rfl | hx; exact rfl; exact ff x hx
    · rw [← hseq]; simp only [plug]; exact plug_seq c (by simp [Fm.fill, BT.seq])
    · refine .trans ?_ hperm; simp only [plug]
      refine (plug_nodes c _).trans (.trans (.append_right _ ?_) (plug_nodes c _).symm)
      simp [Fm.fill, BT.nodes]
  | true =>
    have key := rotate_rep (σ := τ) (a := ⟨true, false, p', o'⟩) (c := c) (l := o) (i := p) (r := .node false l i r) (u := u) hrep rfl hnd' hO'
    obtain ⟨h1, h2, h3⟩ := key
    refine ⟨h3, ⟨true, false, p, .node false o' p' o⟩, h1, ?_, ?_, ?_, h.rot.trans (h2.perm (fun _ => hperm.mem_iff)), h.inR.rotate hp h3.1 h3.2.1 h3.2.2.1 h3.2.2.2⟩
    · intro x hx; rcases List.mem_cons.1 hx with rfl | hx; exact rfl; exact ff x hx
    · rw [← hseq]; simp only [plug]; exact plug_seq c (by simp [Fm.fill, BT.seq])
    · refine .trans ?_ hperm; simp only [plug]
      refine (plug_nodes c _).trans (.trans (.append_right _ ?_) (plug_nodes c _).symm)
      simp [Fm.fill, BT.nodes]
end

end Go.Proofs.Ytoppjjgecgbbkaa

/- A region that draws its order and only reads, inside the round of a loop over a range-function: one walk in the order of the text serves. -/
namespace Go.Proofs.Ytoppjjgecgbbkaa
open Go.RowKit

section
variable {F : Fence} {n : Nat} {P : Program} {ops : Array Oper} {md : Region.Mode} {C : World → Prop}

theorem semAt_plain (ro : Option Nat) (ρ : Operand → Value) (o : Oper) (h : ∀ c, o.op ≠ .defer c) : Oper.semAt ro ρ o = execOp ρ o := by
  cases ro with
  | none => exact Oper.semAt_none ρ o
  | some l => exact Oper.semAt_some l ρ o h

theorem quiet_op {o : Oper} {a : Act} {K : Act → Prop} {K' : Act → World → Prop} {Q' : Exit → Act → World → Prop} {w : World} (hd : ∀ c, o.op ≠ .defer c) (hw : C w) (h : ∀ a w', C w' → K a → K' a w')
    (ha : o.askedIn F P a C) (hh : o.quietIn F n P a C K) : o.wpIn F n P a w K' Q' := by
  obtain ⟨v, h1, h2⟩ := hh
  have h3 := h1 w hw
  unfold Oper.quietAtIn at h3
  refine ⟨ha w hw, ?_⟩
  rw [semAt_plain _ _ _ hd]
  generalize (execOp a.eval o).run P w = r at *
  cases r with
  | halt x w' => exact h3.elim
  | ok x w' =>
    cases x with
    | value u => obtain ⟨rfl, rfl⟩ := h3; exact h _ _ hw h2
    | skip => obtain ⟨rfl, rfl⟩ := h3; exact h _ _ hw h2
    | enter f args => obtain ⟨rfl, hd, hc⟩ := h3; exact ⟨hd, hc.mono fun e w'' ⟨he, hw''⟩ => by subst he; exact h _ _ hw'' h2⟩
    | _ => exact h3.elim

theorem quiet_opAt {i : Nat} {a : Act} {K : Act → Prop} {K' : Act → World → Prop} {Q' : Exit → Act → World → Prop} {w : World} (hd : ∀ o ∈ ops.toList, ∀ c, o.op ≠ .defer c) (hC : C w) (h : ∀ a w', C w' → K a → K' a w')
    (hh : qOpIn F n P ops C i K a) : wpOpIn F n P ops Q' i K' a w := by
  unfold qOpIn at hh
  unfold wpOpIn
  split
  · rename_i ho; simp only [ho] at hh; exact h _ _ hC hh
  · rename_i o ho
    simp only [ho] at hh
    obtain ⟨ha, hh⟩ := hh
    have hm : o ∈ ops.toList := by rw [Array.mem_toList_iff]; exact Array.mem_of_getElem? ho
    split
    · rename_i hw; simp only [hw, if_true] at hh; exact quiet_op (hd o hm) hC h ha hh
    · rename_i hw; simp only [hw] at hh; exact ⟨ha w hC, h _ _ hC hh⟩

theorem quiet_any {Q : Act → Prop} {Q' : Exit → Act → World → Prop} (hd : ∀ o ∈ ops.toList, ∀ c, o.op ≠ .defer c) (hQ : ∀ a w, C w → Q a → Q' .normal a w) : ∀ (fuel : Nat) (listed : Array Bool) (a : Act) (w : World), C w →
    wpAnyQIn F n P md ops C Q fuel listed a → wpAnyIn F n P md ops Q' fuel listed a w
  | 0, _, _, _, hw, h => ⟨h.1, hQ _ _ hw h.2⟩
  | fuel + 1, _, _, _, hw, h => ⟨fun h0 => hQ _ _ hw (h.1 h0), fun i hi => quiet_opAt hd hw (fun a' w' hw' => quiet_any hd hQ fuel _ a' w' hw') (h.2 i hi)⟩

def noDefer (o : Oper) : Bool := match o.op with
  | .defer _ => false
  | _ => true

theorem quiet_region {id : Nat} {Q : Exit → Act → World → Prop} {a : Act} {w : World} {l : List Oper} (hm : P.follows .mixedOrders = true) (hB : Region.lexB .any l.toArray = true) (hd : l.all noDefer = true)
    (h : wpQuietIn F n P l.toArray (fun w' => ∃ n, w' = w.drewN n) (fun a' => ∀ w', (∃ n, w' = w.drewN n) → Q .normal a' w') l a) : (Code.region id l.toArray true).wpIn F n P Q a w := by
  simp only [Region.lexB, Bool.and_eq_true] at hB
  have hd' : ∀ o ∈ l.toArray.toList, ∀ c, o.op ≠ .defer c := by
    intro o ho c e
    have := List.all_eq_true.1 hd o (by simpa using ho)
    simp [noDefer, e] at this
  refine wpIn_region_any hm (quiet_any (Q := fun a' => ∀ w', (∃ n, w' = w.drewN n) → Q .normal a' w') (C := fun w' => ∃ n, w' = w.drewN n) hd' (fun _ w' hw' h => h w' hw') _ _ _ _ ⟨1, rfl⟩ ?_)
  have := wpAnyQIn_lex (F := F) (n := n) (C := fun w' => ∃ n, w' = w.drewN n) (md := .any) hB.1 l 0 (Array.replicate l.toArray.size false) a (by simp) (by simpa using hB.2) h
  simpa using this
end
end Go.Proofs.Ytoppjjgecgbbkaa

/- lct: slices.Backward over a row of places. -/
namespace Go.Proofs.Ytoppjjgecgbbkaa
open Go.RowKit Go.Shelf
set_option maxRecDepth 4000
set_option maxHeartbeats 400000
attribute [local go_sem] Oper.semAt_some

/-- Of the blocks below n₀ only g may have changed. -/
structure Bx (n₀ g : Nat) (w w' : World) : Prop where
  os : w'.os = w.os
  tape : w'.tape = w.tape
  output : w'.output = w.output
  size : w.heap.size ≤ w'.heap.size
  keep : ∀ k, k < n₀ → k ≠ g → w'.heap[k]? = w.heap[k]?

section
variable {n₀ g : Nat} {w w' w'' : World}
theorem Bx.refl (n₀ g : Nat) (w : World) : Bx n₀ g w w := ⟨rfl, rfl, rfl, Nat.le_refl _, fun _ _ _ => rfl⟩
theorem Bx.trans (h : Bx n₀ g w w') (k : Bx n₀ g w' w'') : Bx n₀ g w w'' :=
  ⟨k.os.trans h.os, k.tape.trans h.tape, k.output.trans h.output, Nat.le_trans h.size k.size, fun i hi hn => (k.keep i hi hn).trans (h.keep i hi hn)⟩
theorem Bx.of_fr (h : Fr [g] w w') (hn : n₀ ≤ w.heap.size) : Bx n₀ g w w' := ⟨h.os, h.tape, h.output, h.size, fun k hk hne => h.keep k (by omega) (by simpa using hne)⟩
theorem Bx.of_below (h : Below n₀ w w') : Bx n₀ g w w' := ⟨h.os, h.tape, h.output, h.size, fun k hk _ => h.block k hk⟩
theorem Bx.fr (h : Bx w.heap.size g w w') : Fr [g] w w' := ⟨h.os, h.tape, h.output, h.size, fun k hk hn => h.keep k hk (by simpa using hn)⟩
theorem Bx.mono {n : Nat} (h : Bx n₀ g w w') (hn : n ≤ n₀) : Bx n g w w' := ⟨h.os, h.tape, h.output, h.size, fun k hk => h.keep k (by omega)⟩
theorem Bx.cell {p : Addr} (h : Bx n₀ g w w') (hp : p.block < n₀) (hg : p.block ≠ g) : w'.cell? p = w.cell? p := World.cell?_of_block (h.keep _ hp hg)
theorem Bx.grown {row : Option Nat} (h : Bx n₀ g w w') (hg : w'.grownBy w'' row) (hn : n₀ ≤ w'.heap.size) (hr : ∀ k, row = some k → n₀ ≤ k) : Bx n₀ g w w'' :=
  h.trans ⟨hg.os, hg.tape, hg.output, hg.size, fun k hk _ => hg.block k (by omega) (fun e => by have := hr k e.symm; omega)⟩
theorem Bx.alloc (h : Bx n₀ g w w') (hn : n₀ ≤ w'.heap.size) (o : Obj) : Bx n₀ g w (w'.alloc o) := h.grown (World.grownBy_alloc _ _ none) hn (fun _ e => by cases e)
end
theorem bxK_b {n₀ g : Nat} {w : World} (hn : n₀ ≤ w.heap.size) (W : World) (l : Nat) (o o' : Obj) (hl : w.heap.size ≤ l) (h : W.heap[l]? = some o) (_ : o.isCells = false) (_ : o.isWalk = false) : Bx n₀ g W (W.putObj l o') :=
  (Bx.refl n₀ g W).grown (grownBy_putObj' W l o') (by have := (Array.getElem?_eq_some_iff.1 h).1; omega) (fun k e => by cases e; omega)
theorem ownFrom_bx {β : Type} {n₀ g B : Nat} {w₀ : World} (hn : n₀ ≤ w₀.heap.size) (hB : n₀ ≤ B) : OwnFrom B (fun (_ : β) W => Bx n₀ g w₀ W) :=
  fun _ _ _ _ hs hg hr => hs.grown hg (Nat.le_trans hn hs.size) (fun k e => Nat.le_trans hB (hr k e).1)
theorem keepsOthers_fr {g : Nat} {w w' : World} {arr : Array Value} {t : TypeId} {z : Nat × Nat} (h : Fr [g] w w') (hg : w.heap[g]? = some (.cells arr t z)) : KeepsOthers w w' :=
  ⟨h.size, fun k o hk ho => by
    have hkg : k ≠ g := by
      rintro rfl; rw [hg] at hk; cases hk; cases ho
    exact (h.keep k (Array.getElem?_eq_some_iff.1 hk).1 (by simpa using hkg)).trans hk⟩

/-- An index with its place, as the range-function yields them. -/
abbrev Pl (N : Nat) := { x : Nat × Nat // x.2 < N }
def bk (N m : Nat) (P : Nat → Nat) (hP : ∀ i, P i < N) (k : Nat) : Pl N := ⟨(m - 1 - k, P (m - 1 - k)), hP _⟩
def bks (N m : Nat) (P : Nat → Nat) (hP : ∀ i, P i < N) (k : Nat) : List (Pl N) := (List.range k).map (bk N m P hP)
theorem bks_succ (N m : Nat) (P : Nat → Nat) (hP : ∀ i, P i < N) (k : Nat) : bks N m P hP (k + 1) = bks N m P hP k ++ [bk N m P hP k] := by simp [bks, List.range_succ]

theorem back_in (v : Value) (hv : v.oneCell' = true) (w : World) :
    CallsIn Fence.wide 9 Try.prog 63 #[v] w fun e w' => e = .returned (.func (.func 65) #[] #[.pointer (some ⟨w.heap.size, 0, none⟩)]) ∧ w' = w.alloc (.cells #[v] 41) := by
  refine callsIn_of_wp Try.func63 rfl trivial ?_ rfl
  simp only [Try.ntmps63, List.size_toArray, List.length_cons, List.length_nil, Nat.reduceAdd, Nat.reduceSub, Array.replicate_succ, Array.replicate_zero, List.push_toArray, List.append_toArray, List.nil_append, List.cons_append]
  gi_wp2
  go_ret
  exact ⟨rfl, rfl⟩

theorem back1_in (nf l Bb gp m cap N g B : Nat) (P : Nat → Nat) (hP : ∀ i, P i < N) (_hN : N ≤ 65537) (hm : m ≤ 65537) (hnf : 2 ≤ nf) (hBb : Bb < B) (hgp : gp < B) (hbg : Bb ≠ g) (hpg : gp ≠ g)
    (J Jx : List (Pl N) → World → Prop)
    (hY : ∀ pre x W, J pre W → pre.length < m → YieldAt Fence.wide (nf - 1) Try.prog l #[.int .i64 x.1.1, .int .i64 x.1.2] W fun e W' =>
      (e = .returned (.bool true) ∧ J (pre ++ [x]) W' ∧ Bx B g W W') ∨ (e = .returned (.bool false) ∧ Jx (pre ++ [x]) W'))
    (W : World) (hc : W.cell? ⟨Bb, 0, none⟩ = some (.slice (some ⟨gp, 0, none⟩) m cap)) (_hmc : m ≤ cap) (hp : ∀ i, i < m → W.cell? ⟨gp, i, none⟩ = some (.int .i64 (P i))) (h0 : J [] W) :
    CallsIn Fence.wide nf Try.prog 65 #[.func (.yield l) #[] #[], .pointer (some ⟨Bb, 0, none⟩)] W fun e W' => (∃ v, e = .returned v) ∧
      ((∃ ys, ys = bks N m P hP m ∧ J ys W') ∨ (∃ pre, True ∧ Jx pre W')) := by
  have HP := Lib.hid hp; clear hp
  refine callsIn_of_wp Try.func65 rfl trivial ?_ rfl
  simp only [Try.ntmps65, List.size_toArray, List.length_cons, List.length_nil, Nat.reduceAdd, Nat.reduceSub, Array.replicate_succ, Array.replicate_zero, List.push_toArray, List.append_toArray, List.nil_append, List.cons_append]
  gi_wp2
  gi_loopw [3] (fun x wr => ∃ i : Nat, i ≤ m ∧ x = .int .i64 ((i : Int) - 1) ∧ Bx B g W wr ∧ J (bks N m P hP (m - i)) wr) (fun x _ => (intOf x + 1).toNat)
  case atStart => exact ⟨m, Nat.le_refl _, by go_num, Bx.refl _ _ _, by rw [Nat.sub_self]; exact h0⟩
  case round =>
    obtain ⟨i, hi, rfl, hB, hJ⟩ := hrel
    cases i with
    | zero =>
      rw [show ((0 : Nat) : Int) - 1 = -1 by rfl]
      gi_wp2
      go_end0
      exact ⟨⟨_, rfl⟩, .inl ⟨_, rfl, hJ⟩⟩
    | succ j =>
      rw [show ((j + 1 : Nat) : Int) - 1 = (j : Int) by omega]
      have rc := (hB.cell (p := ⟨Bb, 0, none⟩) hBb hbg).trans hc
      have rp := (hB.cell (p := ⟨gp, j, none⟩) hgp hpg).trans (HP.out j (by omega))
      obtain ⟨fn, tmps, assign, body, hy, hRd⟩ := hY (bks N m P hP (m - (j + 1))) (bk N m P hP (m - (j + 1))) wr hJ (by simp [bks]; omega)
      have e0 : (bk N m P hP (m - (j + 1))).1.1 = j := by simp only [bk]; omega
      have e1 : (bk N m P hP (m - (j + 1))).1.2 = P j := by simp only [bk]; rw [show m - 1 - (m - (j + 1)) = j by omega]
      rw [e0, e1] at hy
      clear e0 e1
      have hjm : (j : Int) < m := by omega
      gi_wp2
      refine ⟨fun _ => by omega, ?_⟩
      refine hRd.mono ?_
      rintro e W3 (⟨rfl, hJ3, hk3⟩ | ⟨rfl, hJx3⟩)
      · clear rc rp
        gi_wp2
        go_roundw
        case rel => exact ⟨j, by omega, by go_num, hB.trans hk3, by rw [show m - j = (m - (j + 1)) + 1 by omega, bks_succ]; exact hJ3⟩
        case measure => simp [intOf]
      · gi_wp2
        refine bodyPost_ret (results_none rfl _ _ _) rfl ?_
        exact ⟨⟨_, rfl⟩, .inr ⟨_, trivial, hJx3⟩⟩

end Go.Proofs.Ytoppjjgecgbbkaa

/- lct: splay. -/
namespace Go.Proofs.Ytoppjjgecgbbkaa
open Go.RowKit Go.Shelf
set_option maxRecDepth 10000
set_option maxHeartbeats 800000
attribute [local go_sem] Oper.semAt_some

theorem LctAt.below {w w' : World} {pf g N cap n : Nat} {σ : Tbl} {ed : Int} (h : LctAt w pf g N cap σ ed) (hb : Below n w w') (hp : pf < n) (hg : g < n) : LctAt w' pf g N cap σ ed :=
  ⟨h.hd.of_same (hb.block pf hp), h.nodes.same (hb.block g hg), h.ne, h.le, h.cap⟩
theorem LctAt.lts {w : World} {pf g N cap : Nat} {σ : Tbl} {ed : Int} (h : LctAt w pf g N cap σ ed) : pf < w.heap.size ∧ g < w.heap.size := ⟨h.hd.lt, h.nodes.lt⟩

theorem cnodes_p {a : Fm} : ∀ {c : List Fm}, a ∈ c → a.p ∈ cnodes c
  | b :: c, h => by
    rcases List.mem_cons.1 h with rfl | h
    · simp [cnodes]
    · simp only [cnodes, List.cons_append, List.mem_cons, List.mem_append]; exact .inr (.inr (cnodes_p h))
theorem cnodes_len : ∀ c : List Fm, c.length ≤ (cnodes c).length
  | [] => Nat.le_refl _
  | a :: c => by have := cnodes_len c; simp [cnodes]; omega
/-- Different numbers below a bound are no more than the bound. -/
theorem nodup_le {l : List Nat} {N : Nat} (h : l.Nodup) (hl : ∀ x ∈ l, x < N) : l.length ≤ N := by
  have h1 : l ⊆ List.range N := fun x hx => List.mem_range.2 (hl x hx)
  have := h.length_le_of_subset h1
  simpa using this
def slLen : Value → Nat
  | .slice _ n _ => n
  | _ => 0
theorem Fr.of_grown {w w' : World} {b : Nat} {row : Option Nat} {o : Obj} (hg : (w.alloc o).grownBy w' row) (hr : ∀ k, row = some k → b ≤ k) (hb : b ≤ w.heap.size) : Below b w w' :=
  ((Below.refl b w).alloc hb o).grown hg (by simp; omega) hr

theorem Try.info3 : (Try.prog.info? 3).map (fun i => (i.zero, i.size, i.bytes)) = some (some (.int .i64 0), 1, 8) := by kernel_rfl
theorem LctAt.grown {w w' : World} {pf g N cap : Nat} {σ : Tbl} {ed : Int} {row : Option Nat} (h : LctAt w pf g N cap σ ed) (hg : w.grownBy w' row) (hr : ∀ k, row = some k → k ≠ pf ∧ k ≠ g) : LctAt w' pf g N cap σ ed :=
  ⟨h.hd.of_same (hg.block pf h.hd.lt (fun e => (hr _ e.symm).1 rfl)), h.nodes.same (hg.block g h.nodes.lt (fun e => (hr _ e.symm).2 rfl)), h.ne, h.le, h.cap⟩
theorem InR.pushAll {N : Nat} : ∀ {ps : List Nat} {σ : Tbl}, InR N σ → (∀ x ∈ ps, x < N) → InR N (pushAll σ ps)
  | [], _, h, _ => h
  | p :: ps, σ, h, hp => InR.pushAll (ps := ps) (h.push p (hp p (by simp))) (fun x hx => hp x (by simp [hx]))
theorem pushAll_snoc (σ : Tbl) (ps : List Nat) (x : Nat) : pushAll σ (ps ++ [x]) = push (pushAll σ ps) x := by simp [pushAll]
theorem ownsRow_cells {w : World} {e : TypeId} {g n cap : Nat} {xs : List Value} (h : w.ownsRow 0 e 1 (.slice (some ⟨g, 0, none⟩) n cap) n xs) (hn : 0 < n) : n ≤ cap ∧ g < w.heap.size ∧ ∀ i, i < n → w.cell? ⟨g, i, none⟩ = xs[i]? := by
  obtain ⟨g', cap', e1, h1, h2, _⟩ := ownsRow_at h hn
  simp only [Value.slice.injEq, Option.some.injEq, Addr.mk.injEq, and_true, true_and] at e1
  obtain ⟨rfl, rfl⟩ := e1
  refine ⟨h1, h2, fun i hi => ?_⟩
  obtain ⟨g', cap', e1, _, _, h3, _⟩ := ownsRow_at h hi
  simp only [Value.slice.injEq, Option.some.injEq, Addr.mk.injEq, and_true, true_and] at e1
  obtain ⟨rfl, rfl⟩ := e1
  exact h3
theorem bks_map (N m : Nat) (P : Nat → Nat) (hP : ∀ i, P i < N) (k : Nat) : (bks N m P hP k).map (fun x => x.1.2) = (List.range k).map (fun k => P (m - 1 - k)) := by simp [bks, bk, Function.comp_def]
theorem range_rev (P : List Nat) : (List.range P.length).map (fun k => P.getD (P.length - 1 - k) 0) = P.reverse := by
  apply List.ext_getElem?
  intro j
  by_cases h : j < P.length
  · rw [List.getElem?_map, List.getElem?_range h, List.getElem?_reverse h]
    simp only [Option.map_some, List.getD_eq_getElem?_getD]
    rw [List.getElem?_eq_getElem (show P.length - 1 - j < P.length by omega)]
    rfl
  · rw [List.getElem?_eq_none (by simp; omega), List.getElem?_eq_none (by simp; omega)]

def encI (x : Nat) : Value := .int .i64 x

theorem splay_w {w : World} {pf g N cap : Nat} {σ : Tbl} {ed : Int} (h : LctAt w pf g N cap σ ed) (i : Nat) (hR : InR N σ) (c : List Fm) (f : Bool) (l r : BT) (u : Nat)
    (hrep : Rep σ (plug c (.node f l i r)) u) (hnd : (plug c (.node f l i r)).nodes.Nodup) (hO : Out σ u (plug c (.node f l i r)).nodes) (hlt : ∀ x ∈ (plug c (.node f l i r)).nodes, x < N) :
    Calls Try.prog 55 #[.pointer (some ⟨pf, 0, none⟩), .int .i64 i] w fun e w' => e = .returned (.tuple #[]) ∧
      ∃ σ' l' r', LctAt w' pf g N cap σ' ed ∧ Rep σ' (.node false l' i r') u ∧ (BT.node false l' i r').seq = (plug c (.node f l i r)).seq ∧ (BT.node false l' i r').nodes.Perm (plug c (.node f l i r)).nodes ∧ Rotated σ σ' (plug c (.node f l i r)).nodes ∧ InR N σ' ∧ Fr [g] w w' := by
  obtain ⟨hpf, hg⟩ := h.lts
  have hN := h.le
  have HR := Lib.hid hR; clear hR
  have hi0 : i ≠ 0 := (rep_plug.1 hrep).1.1.1
  have hcl := climb hrep hi0 hnd hO
  have hPm : ∀ x ∈ i :: c.map Fm.p, x ∈ (plug c (.node f l i r)).nodes := by
    intro x hx
    refine (plug_nodes c _).mem_iff.2 ?_
    rcases List.mem_cons.1 hx with rfl | hx
    · simp [BT.nodes]
    · rw [List.mem_append]; right
      obtain ⟨a, ha, rfl⟩ := List.mem_map.1 hx
      exact cnodes_p ha
  have hPN : ∀ x ∈ i :: c.map Fm.p, x < N := fun x hx => hlt x (hPm x hx)
  have hPl : (i :: c.map Fm.p).length = c.length + 1 := by simp
  have hway : Way (plug c (.node f l i r)) ((c.map Fm.p).reverse ++ [i]) := way_plug c ⟨rfl, .inl rfl⟩
  have hlen : c.length + 1 ≤ N := by
    have h1 := nodup_le hnd hlt
    have h2 := (plug_nodes c (.node f l i r)).length_eq
    have h3 := cnodes_len c
    simp only [List.length_append, BT.nodes, List.length_cons] at h2
    omega
  generalize hPP : i :: c.map Fm.p = P at *
  have hP0 : P[0]? = some i := by rw [← hPP]; rfl
  have HPP := Lib.hid hPP; clear hPP
  have HC := Lib.hid hcl; clear hcl
  have HW := Lib.hid hway; clear hway
  have HRep := Lib.hid (And.intro hrep (And.intro hnd hO)); clear hrep hnd hO
  have HPN := Lib.hid hPN; clear hPN
  have HPl := Lib.hid hPl; clear hPl
  refine (callsIn_wide (n := 9)).1 ?_
  refine callsIn_of_wp_marks Try.func55 rfl trivial ?_ rfl
  simp only [Try.ntmps55, List.size_toArray, List.length_cons, List.length_nil, Nat.reduceAdd, Nat.reduceSub, Array.replicate_succ, Array.replicate_zero, List.push_toArray, List.append_toArray, List.nil_append, List.cons_append]
  refine wpIn_wide.2 ?_
  go_wp2
  go_step3
  go_wp2
  refine wp_label ?_
  go_wp2
  have hL0 : LctAt (w.alloc (.cells #[.pointer (some ⟨pf, 0, none⟩)] 25)) pf g N cap σ ed := h.below ((Below.refl w.heap.size w).alloc (Nat.le_refl _) _) hpf hg
  have hB0 : Below w.heap.size w (w.alloc (.cells #[.pointer (some ⟨pf, 0, none⟩)] 25)) := (Below.refl w.heap.size w).alloc (Nat.le_refl _) _
  have hbox : (w.alloc (.cells #[.pointer (some ⟨pf, 0, none⟩)] 25)).cell? ⟨w.heap.size, 0, none⟩ = some (.pointer (some ⟨pf, 0, none⟩)) := cell_new1 w _ _ _ rfl
  have hsz : (w.alloc (.cells #[.pointer (some ⟨pf, 0, none⟩)] 25)).heap.size = w.heap.size + 1 := by simp
  generalize w.alloc (.cells #[.pointer (some ⟨pf, 0, none⟩)] 25) = W0 at *
  clear h
  go_loopw [4, 5] (fun a b wr => ∃ k x : Nat, k ≤ c.length ∧ Hid (P[k]? = some x) ∧ b = .int .i64 x ∧ wr.ownsRow 0 3 1 a k ((P.take k).map encI) ∧ Below (w.heap.size + 1) W0 wr ∧ ∀ q, a.ownBlock = some q → w.heap.size + 1 ≤ q) (fun a _ _ => c.length + 1 - slLen a)
  case atStart => exact ⟨0, i, Nat.zero_le _, Lib.hid hP0, rfl, World.ownsRow_nil _ _ _ _, Below.refl _ _, fun q e => by cases e⟩
  case round =>
    obtain ⟨k, x, hk, hx, rfl, hown, hB, hq⟩ := hrel
    obtain ⟨a9, c9, rfl⟩ := ownsRow_slice hown
    have hL : LctAt wr pf g N cap σ ed := hL0.below hB (by omega) (by omega)
    have hxN : x < N := HPN.out x (List.mem_of_getElem? hx.out)
    have hS := Lib.hid hB.size
    have hnx : ∀ b : Bool, (sideOf σ x).2 = b → (b = true → ∃ y, P[k + 1]? = some y ∧ (σ x).up = y ∧ k + 1 ≤ c.length) ∧ (b = false → k = c.length) := by
      intro b hb
      have hkl := HPl.out
      by_cases e : k = c.length
      · refine ⟨fun h => ?_, fun _ => e⟩
        have := HC.out.2 x (by show (i :: c.map Fm.p)[c.length]? = _; rw [HPP.out, ← e]; exact hx.out)
        rw [hb, h] at this; cases this
      · have hy : P[k + 1]? = some (P[k + 1]'(by omega)) := List.getElem?_eq_getElem _
        have := HC.out.1 k x (P[k + 1]'(by omega)) (by show (i :: c.map Fm.p)[k]? = _; rw [HPP.out]; exact hx.out) (by show (i :: c.map Fm.p)[k + 1]? = _; rw [HPP.out]; exact hy)
        refine ⟨fun _ => ⟨_, hy, this.2, by omega⟩, fun h => ?_⟩
        rw [hb, h] at this; cases this.1
    have Hnx := Lib.hid hnx; clear hnx
    go_wp2_with (at_builtin; refine wpList_app1 rfl _ _ 41 rfl 3 (.int .i64 0) 8 Try.underlying41 Try.info3 rfl (.slice a9 k c9) k _ rfl (hown.alloc _) wr.heap.size (.int .i64 x) rfl (cell_new1 _ _ _ _ rfl) rfl (by omega) (by decide) ?_; intro g' cap' w3 hown3 hgrow3 hg3; have hB3 : Below (w.heap.size + 1) W0 w3 := hB.trans (Fr.of_grown hgrow3 hq (by have := hB.size; omega)); have hb3 := (hB3.cell (p := ⟨w.heap.size, 0, none⟩) (by simp)).trans hbox)
    have hL3 : LctAt w3 pf g N cap σ ed := hL0.below hB3 (by omega) (by omega)
    have hq3 : w.heap.size + 1 ≤ g' := by
      rcases hg3 with e | e
      · exact hq _ e
      · simp only [World.size_alloc] at e; have := hS.out; omega
    rw [show (P.take k).map encI ++ [Value.int .i64 x] = (P.take (k + 1)).map encI by rw [List.take_add_one, hx.out]; simp [encI]] at hown3
    clear hown hgrow3 hg3 hL hB hS hq
    refine (side_w hL3 x hxN HR.out).mono ?_
    rintro _ w3 ⟨rfl, rfl⟩
    generalize hsd : sideOf σ x = sx at *
    obtain ⟨s0, b⟩ := sx
    have Hn := Lib.hid (Hnx.out b rfl); clear Hnx
    dsimp only
    cases b with
    | false =>
      have hkc := Hn.out.2 rfl
      subst hkc
      clear Hn
      rw [List.take_of_length_le (by rw [HPl.out]; exact Nat.le_refl _)] at hown3
      obtain ⟨hcap, hglt, hcells⟩ := ownsRow_cells hown3 (by omega)
      clear hown3
      go_wp2
      have hB4 : Below (w.heap.size + 1) W0 (w3.alloc (.cells #[.slice (some ⟨g', 0, none⟩) (c.length + 1) cap'] 41)) := hB3.alloc (by have := hB3.size; omega) _
      have hc4 := Blk.new w3 [.slice (some ⟨g', 0, none⟩) (c.length + 1) cap'] 41
      have hr4 : ∀ j, j < c.length + 1 → (w3.alloc (.cells #[.slice (some ⟨g', 0, none⟩) (c.length + 1) cap'] 41)).cell? ⟨g', j, none⟩ = some (.int .i64 (P.getD j 0)) := by
        intro j hj
        rw [World.cell?_of_block (Below.heap_alloc w3 _ g' hglt), hcells j hj]
        simp only [List.getElem?_map, List.getD_eq_getElem?_getD]
        rw [List.getElem?_eq_getElem (show j < P.length by rw [HPl.out]; omega)]
        rfl
      have hs4 : (w3.alloc (.cells #[.slice (some ⟨g', 0, none⟩) (c.length + 1) cap'] 41)).heap.size = w3.heap.size + 1 := by simp
      generalize w3.alloc (.cells #[.slice (some ⟨g', 0, none⟩) (c.length + 1) cap'] 41) = W1 at *
      have hs3 := hB3.size
      have hL4 : LctAt W1 pf g N cap σ ed := hL0.below hB4 (by omega) (by omega)
      have hb4 := (hB4.cell (p := ⟨w.heap.size, 0, none⟩) (by simp)).trans hbox
      have hPd : ∀ j, P.getD j 0 < N := by
        intro j
        rw [List.getD_eq_getElem?_getD]
        cases e : P[j]? with
        | none => simp; omega
        | some y => exact HPN.out y (List.mem_of_getElem? e)
      clear hcells hb3 hL3 hx
      refine (wpIn_wide (n := 9)).1 ?_
      refine' wpIn_rangeFunc_ownF (n := 9) rfl (by decide) (α := Pl N) (gf := 65) (lb := #[.pointer (some ⟨w3.heap.size, 0, none⟩)]) rfl trivial (enters_of Try.func65 (by kernel_rfl) rfl)
        (encs := fun x => #[.int .i64 x.1.1, .int .i64 x.1.2]) (Kp := Bx W1.heap.size g) (S := fun ys => ys = bks N (c.length + 1) (fun j => P.getD j 0) hPd (c.length + 1)) (Sp := fun _ => True) (N := c.length + 1) (w0 := W1)
        (fun l J Jx W hW _ _ hY h0 => back1_in 8 l w3.heap.size g' (c.length + 1) cap' N g W1.heap.size (fun j => P.getD j 0) hPd hN (by omega) (by decide) (by omega) (by omega) (by omega) (by omega) J Jx hY W ((hW.cell (p := ⟨w3.heap.size, 0, none⟩) (by show w3.heap.size < _; omega)).trans (hc4.cell 0)) hcap (fun j hj => (hW.cell (p := ⟨g', j, none⟩) (by show g' < _; omega)).trans (hr4 j hj)) h0)
        (fun h k => h.trans k) (bxK_b (Nat.le_refl _)) (Below.refl _ _) (fun _ => rfl)
        (fun pre W => (LctAt W pf g N cap (pushAll σ (pre.map (fun x => x.1.2))) ed ∧ W.cell? ⟨w.heap.size, 0, none⟩ = some (.pointer (some ⟨pf, 0, none⟩))) ∧ Bx W1.heap.size g W1 W)
        (fun _ _ _ => False)
        (OwnFrom.and (fun s A B row hs hg hr => ⟨hs.1.grown hg (fun k e => by have := (hr k e).1; omega), (World.cell?_of_block (hg.block w.heap.size (cell_lt (a := ⟨w.heap.size, 0, none⟩) hs.2) (fun e => by have := (hr w.heap.size e.symm).1; omega))).trans hs.2⟩) (ownFrom_bx (Nat.le_refl _) (Nat.le_refl _)))
        (fun c s A B row hs hg hr => hs) ⟨⟨hL4, hb4⟩, Bx.refl _ _ _⟩ _ ?assign ?body ?done ?stop
      case assign =>
        intro l x W K hK
        gi_wp2
        exact hK
      case body =>
        rintro l pre x W ⟨⟨hLp, hbp⟩, hBp⟩ _
        obtain ⟨⟨x1, x2⟩, hx2⟩ := x
        dsimp only at hx2
        gi_wp2_with (refine ⟨trivial, ?_⟩; gi_at_call 56; refine (CallsIn.inRound l (callsIn_wide.2 (push_w hLp x2 hx2 (HR.out.pushAll (fun y hy => by obtain ⟨z, _, rfl⟩ := List.mem_map.1 hy; exact z.2))))).mono ?_; rintro e w' ⟨rfl, hLq, hFq⟩)
        obtain ⟨arr, hga, _⟩ := hLp.nodes
        refine ⟨keepsOthers_fr hFq hga, Bx.of_fr hFq hBp.size, ⟨?_, hFq.cell hbp (by show w.heap.size ∉ [g]; simp; omega)⟩, hBp.trans (Bx.of_fr hFq hBp.size)⟩
        rw [List.map_append, List.map_cons, List.map_nil, pushAll_snoc]
        exact hLq
      case stop =>
        rintro D c pre W hD _ hf hK
        exact hf.elim
      case done =>
        rintro D ys W hD rfl ⟨⟨hLd, hbd⟩, hBd⟩ hK
        rw [bks_map, ← HPl.out, range_rev, show P.reverse = (c.map Fm.p).reverse ++ [i] by rw [← HPP.out]; simp] at hLd
        have hsp : ∃ c' l' r', Spin N σ (pushAll σ ((c.map Fm.p).reverse ++ [i])) u i (plug c (.node f l i r)) c' l' r' := by
          obtain ⟨c', l', r', a1, a2, a3, a4, a5⟩ := pushAll_rep (c := []) (t := plug c (.node f l i r)) HRep.out.1 HRep.out.2.1 (fun _ h => by cases h) HW.out
          exact ⟨c', l', r', a1, a2, a3, a4, a5, HR.out.pushAll (fun x hx => HPN.out x (by rw [← HPP.out]; simp at hx; simp; rcases hx with h | h; exact .inr h; exact .inl h))⟩
        obtain ⟨c1, l1, r1, hS1⟩ := hsp
        have HS1 := Lib.hid hS1; clear hS1
        generalize pushAll σ ((c.map Fm.p).reverse ++ [i]) = τ1 at *
        have hBw : Bx w.heap.size g w W := (Bx.of_below (hB0.trans (hB4.mono (by omega)))).trans (hBd.mono (by omega))
        clear hc4 hr4 hL4 hb4 hBd hPd hB4 hB3 hglt
        go_wp2
        go_loopg [] (c1.length + 1) (fun k wr => ∃ τ c1 l1 r1, Hid (c1.length < k ∧ Spin N σ τ u i (plug c (.node f l i r)) c1 l1 r1) ∧ LctAt wr pf g N cap τ ed ∧ Bx w.heap.size g w wr ∧ wr.cell? ⟨w.heap.size, 0, none⟩ = some (.pointer (some ⟨pf, 0, none⟩)) ∧ wr.heap[D]? = some (.deferred (some [])))
        case atStart => exact ⟨τ1, c1, l1, r1, Lib.hid ⟨Nat.lt_succ_self _, HS1.out⟩, hLd, hBw, hbd, hK⟩
        case round =>
          clear hLd hbd hBw hK HS1
          obtain ⟨τ, c2, l2, r2, HS, hLr, hBr, hbr, hKr⟩ := hrel
          have hiN : i < N := hlt i ((plug_nodes c _).mem_iff.2 (by simp [BT.nodes]))
          have hi2 : (i : Int) < N := by omega
          have d1 := hLr.hd.cell 1
          simp only [List.getElem?_cons_zero, List.getElem?_cons_succ] at d1
          have hDg : D ≠ g := by omega
          have hwg : w.heap.size ≠ g := by omega
          cases c2 with
          | nil =>
            have hsd : (sideOf τ i).2 = false := (climb HS.out.2.rep hi0 (HS.out.2.nd HRep.out.2.1) (HS.out.2.out HRep.out.2.2)).2 i rfl
            go_wp2_with fail
            refine (side_w hLr i hiN HS.out.2.inR).mono ?_
            rintro _ wx ⟨rfl, rfl⟩
            rw [hsd]
            go_wp2
            rw [Exit.noGoto_ret]
            refine ⟨by simp, .inl ⟨_, _, rfl, run_takeDeferred hKr, ?_⟩⟩
            refine ⟨.tuple #[], results_none rfl _ _ _, rfl, τ, l2, r2, ?_, HS.out.2.rep, HS.out.2.seq, HS.out.2.perm, HS.out.2.rot, HS.out.2.inR, ?_⟩
            · exact hLr.grown (grownBy_putObj' _ D (.deferred none)) (fun k e => by cases e; omega)
            · exact (hBr.grown (grownBy_putObj' _ D (.deferred none)) hBr.size (fun k e => by cases e; omega)).fr
          | cons a c3 =>
            obtain ⟨hs1, hu1⟩ := side_frame HS.out.2.rep hi0 (HS.out.2.nd HRep.out.2.1)
            change sideOf τ i = _ at hs1
            change (τ i).up = _ at hu1
            have hpN : a.p < N := hu1 ▸ (HS.out.2.inR i hiN).2.2.1
            have hp2 : (a.p : Int) < N := by omega
            have hp0 : a.p ≠ 0 := (rep_plug.1 HS.out.2.rep).2.1.1
            have a2 := hLr.nodes.c2 i hiN
            rw [hu1] at a2
            have S1 := Lib.hid (side_w hLr i hiN HS.out.2.inR)
            rw [hs1] at S1
            have S2 := Lib.hid (side_w hLr a.p hpN HS.out.2.inR)
            clear hs1 hu1
            cases c3 with
            | nil =>
              have hsd : (sideOf τ a.p).2 = false := (climb HS.out.2.rep hi0 (HS.out.2.nd HRep.out.2.1) (HS.out.2.out HRep.out.2.2)).2 a.p rfl
              rw [hsd] at S2
              have HZ := Lib.hid (HS.out.2.zig HRep.out.2.1 HRep.out.2.2 hiN)
              clear hsd
              go_wp2_with fail
              refine S1.out.mono ?_
              rintro _ wx ⟨rfl, rfl⟩
              go_wp2_with fail
              refine S2.out.mono ?_
              rintro _ wx ⟨rfl, rfl⟩
              go_wp2_with fail
              refine (rotate_w hLr i hiN HS.out.2.inR HZ.out.1.1 HZ.out.1.2.1 HZ.out.1.2.2.1 HZ.out.1.2.2.2).mono ?_
              rintro _ wy ⟨rfl, hLy, hFy⟩
              go_wp2
              obtain ⟨hz, l3, r3, hS3⟩ := HZ.out
              go_roundg 1
              case measure => have := HS.out.1; simp at this; omega
              case rel => exact ⟨_, [], l3, r3, Lib.hid ⟨by simp, hS3⟩, hLy, hBr.trans (Bx.of_fr hFy hBr.size), hFy.cell hbr (by simpa using hwg), (hFy.keep D (Array.getElem?_eq_some_iff.1 hKr).1 (by simpa using hDg)).trans hKr⟩
            | cons b c4 =>
              obtain ⟨hs1, _⟩ := side_frame (c := c4) (a := b) (t := a.fill (.node false l2 i r2)) HS.out.2.rep (by rw [fill_root]; exact hp0) (HS.out.2.nd HRep.out.2.1)
              rw [fill_root] at hs1
              rw [hs1] at S2
              clear hs1
              by_cases hab : a.s = b.s
              · have hb : ((sd a.s : Int) == (sd b.s : Int)) = true := by rw [hab]; exact beq_self_eq_true _
                obtain ⟨z1, a', z2⟩ := HS.out.2.zigp hab HRep.out.2.1 HRep.out.2.2 hpN
                obtain ⟨z3, z4⟩ := z2.zig HRep.out.2.1 HRep.out.2.2 hiN
                have HZ1 := Lib.hid z1; clear z1
                have HZ2 := Lib.hid z2; clear z2
                have HZ3 := Lib.hid z3; clear z3
                have HZ4 := Lib.hid z4; clear z4
                clear hab
                go_wp2_with fail
                refine S1.out.mono ?_
                rintro _ wx ⟨rfl, rfl⟩
                go_wp2_with fail
                refine S2.out.mono ?_
                rintro _ wx ⟨rfl, rfl⟩
                go_wp2_with fail
                refine (rotate_w hLr a.p hpN HS.out.2.inR HZ1.out.1 HZ1.out.2.1 HZ1.out.2.2.1 HZ1.out.2.2.2).mono ?_
                rintro _ wy ⟨rfl, hLy, hFy⟩
                have hby := hFy.cell hbr (by simpa using hwg)
                go_wp2_with fail
                refine (rotate_w hLy i hiN HZ2.out.inR HZ3.out.1 HZ3.out.2.1 HZ3.out.2.2.1 HZ3.out.2.2.2).mono ?_
                rintro _ wz ⟨rfl, hLz, hFz⟩
                go_wp2
                obtain ⟨l3, r3, hS3⟩ := HZ4.out
                go_roundg (c4.length + 1)
                case measure => have := HS.out.1; simp at this; omega
                case rel =>
                  have hF2 := hFy.then hFz
                  exact ⟨_, c4, l3, r3, Lib.hid ⟨by simp, hS3⟩, hLz, hBr.trans (Bx.of_fr hF2 hBr.size), hF2.cell hbr (by simpa using hwg), (hF2.keep D (Array.getElem?_eq_some_iff.1 hKr).1 (by simpa using hDg)).trans hKr⟩
              · have hb : ((sd a.s : Int) == (sd b.s : Int)) = false := by
                  cases h1 : a.s <;> cases h2 : b.s <;> simp_all [sd]
                obtain ⟨z1, l5, r5, z2⟩ := HS.out.2.zig HRep.out.2.1 HRep.out.2.2 hiN
                obtain ⟨z3, z4⟩ := z2.zig HRep.out.2.1 HRep.out.2.2 hiN
                have HZ1 := Lib.hid z1; clear z1
                have HZ2 := Lib.hid z2; clear z2
                have HZ3 := Lib.hid z3; clear z3
                have HZ4 := Lib.hid z4; clear z4
                clear hab
                go_wp2_with fail
                refine S1.out.mono ?_
                rintro _ wx ⟨rfl, rfl⟩
                go_wp2_with fail
                refine S2.out.mono ?_
                rintro _ wx ⟨rfl, rfl⟩
                go_wp2_with fail
                refine (rotate_w hLr i hiN HS.out.2.inR HZ1.out.1 HZ1.out.2.1 HZ1.out.2.2.1 HZ1.out.2.2.2).mono ?_
                rintro _ wy ⟨rfl, hLy, hFy⟩
                have hby := hFy.cell hbr (by simpa using hwg)
                go_wp2_with fail
                refine (rotate_w hLy i hiN HZ2.out.inR HZ3.out.1 HZ3.out.2.1 HZ3.out.2.2.1 HZ3.out.2.2.2).mono ?_
                rintro _ wz ⟨rfl, hLz, hFz⟩
                go_wp2
                obtain ⟨l3, r3, hS3⟩ := HZ4.out
                go_roundg (c4.length + 1)
                case measure => have := HS.out.1; simp at this; omega
                case rel =>
                  have hF2 := hFy.then hFz
                  exact ⟨_, c4, l3, r3, Lib.hid ⟨by simp, hS3⟩, hLz, hBr.trans (Bx.of_fr hF2 hBr.size), hF2.cell hbr (by simpa using hwg), (hF2.keep D (Array.getElem?_eq_some_iff.1 hKr).1 (by simpa using hDg)).trans hKr⟩
    | true =>
      obtain ⟨y, hy1, hy2, hy3⟩ := Hn.out.1 rfl
      have a2 := hL3.nodes.c2 x hxN
      rw [hy2] at a2
      have d1 := hL3.hd.cell 1
      simp only [List.getElem?_cons_zero, List.getElem?_cons_succ] at d1
      have hx2 : (x : Int) < N := by omega
      go_wp2
      go_roundw
      case rel => exact ⟨k + 1, y, hy3, Lib.hid hy1, rfl, hown3, hB3, fun q e => by cases e; exact hq3⟩
      case measure => simp [slLen]; omega

end Go.Proofs.Ytoppjjgecgbbkaa

namespace Go.Proofs.Ytoppjjgecgbbkaa
open Go.RowKit

/-- Each vertex of the list has the one ahead of it as its parent; the first one has u. -/
def Ch (par : Nat → Nat) : Nat → List Nat → Prop
  | _, [] => True
  | u, x :: l => par x = u ∧ Ch par x l

theorem ch_mid {par : Nat → Nat} : ∀ {u : Nat} {l : List Nat} {j : Nat} {r : List Nat}, Ch par u (l ++ j :: r) ↔ Ch par u (l ++ [j]) ∧ Ch par j r
  | u, [], j, r => by simp [Ch]
  | u, x :: l, j, r => by simp only [List.cons_append, Ch]; rw [ch_mid, and_assoc]
theorem ch_congr {par par' : Nat → Nat} : ∀ {u : Nat} {l : List Nat}, (∀ x ∈ l, par' x = par x) → Ch par u l → Ch par' u l
  | _, [], _, _ => trivial
  | u, x :: l, h, ⟨h1, h2⟩ => ⟨(h x (by simp)).trans h1, ch_congr (fun y hy => h y (by simp [hy])) h2⟩
theorem ch_rt {par rt : Nat → Nat} (h1 : ∀ x, par x ≠ 0 → rt x = rt (par x)) : ∀ {u : Nat} {l : List Nat}, Ch par u l → (∀ x ∈ l, x ≠ 0) → u ≠ 0 → ∀ x ∈ l, rt x = rt u
  | u, y :: l, ⟨e, hc⟩, hn, hu, x, hx => by
    have hy : rt y = rt u := by rw [h1 y (by rw [e]; exact hu), e]
    rcases List.mem_cons.1 hx with rfl | hx
    · exact hy
    · rw [ch_rt h1 hc (fun z hz => hn z (by simp [hz])) (hn y (by simp)) x hx, hy]
theorem ch_rt_head {par rt : Nat → Nat} (h0 : ∀ x, par x = 0 → rt x = x) (h1 : ∀ x, par x ≠ 0 → rt x = rt (par x)) {y : Nat} {l : List Nat} (h : Ch par 0 (y :: l)) (hn : ∀ x ∈ y :: l, x ≠ 0) : ∀ x ∈ y :: l, rt x = y := by
  intro x hx
  have hy : rt y = y := h0 y h.1
  rcases List.mem_cons.1 hx with rfl | hx
  · exact hy
  · rw [ch_rt h1 h.2 (fun z hz => hn z (by simp [hz])) (hn y (by simp)) x hx, hy]
theorem ch_dep {par d : Nat → Nat} (h1 : ∀ x, par x ≠ 0 → d (par x) < d x) : ∀ {u : Nat} {l : List Nat}, Ch par u l → (∀ x ∈ l, x ≠ 0) → u ≠ 0 → ∀ x ∈ l, d u < d x
  | u, y :: l, ⟨e, hc⟩, hn, hu, x, hx => by
    have hy : d u < d y := by have := h1 y (by rw [e]; exact hu); rwa [e] at this
    rcases List.mem_cons.1 hx with rfl | hx
    · exact hy
    · exact Nat.lt_trans hy (ch_dep h1 hc (fun z hz => hn z (by simp [hz])) (hn y (by simp)) x hx)

abbrev Fst := List (BT × Nat)
def fnodes (F : Fst) : List Nat := F.flatMap fun p => p.1.nodes
def lsum (σ : Tbl) : Fst → Nat → Int
  | [], _ => 0
  | p :: F, v => (if p.2 = v then tot σ p.1.nodes else 0) + lsum σ F v

theorem fnodes_cons (p : BT × Nat) (F : Fst) : fnodes (p :: F) = p.1.nodes ++ fnodes F := by simp [fnodes]
theorem mem_fnodes {x : Nat} {F : Fst} : x ∈ fnodes F ↔ ∃ p ∈ F, x ∈ p.1.nodes := by simp [fnodes]
theorem fnodes_perm {F G : Fst} (h : F.Perm G) : (fnodes F).Perm (fnodes G) := h.flatMap_right _
theorem lsum_perm {σ : Tbl} {F G : Fst} (h : F.Perm G) (v : Nat) : lsum σ F v = lsum σ G v := by
  induction h with
  | nil => rfl
  | cons p _ ih => simp [lsum, ih]
  | swap p q F => simp only [lsum]; omega
  | trans _ _ h1 h2 => exact h1.trans h2
theorem lsum_congr {σ σ' : Tbl} : ∀ {F : Fst} {v : Nat}, (∀ x ∈ fnodes F, (σ' x).light = (σ x).light) → lsum σ' F v = lsum σ F v
  | [], _, _ => rfl
  | p :: F, v, h => by
    rw [fnodes_cons] at h
    simp only [lsum]
    rw [tot_congr (fun x hx => h x (by simp [hx])), lsum_congr (fun x hx => h x (by simp [hx]))]

structure LF (N : Nat) (σ : Tbl) (F : Fst) (par d rt : Nat → Nat) : Prop where
  rep : ∀ p ∈ F, Rep σ p.1 p.2
  nd : (fnodes F).Nodup
  mem : ∀ x, x ∈ fnodes F ↔ 0 < x ∧ x < N
  up : ∀ p ∈ F, p.2 < N
  ch : ∀ p ∈ F, Ch par p.2 p.1.seq
  dep : ∀ x, par x ≠ 0 → d (par x) < d x
  none : ∀ x, ¬ (0 < x ∧ x < N) → par x = 0
  rt0 : ∀ x, par x = 0 → rt x = x
  rt1 : ∀ x, par x ≠ 0 → rt x = rt (par x)
  light : ∀ v, 0 < v → v < N → (σ v).light = wrap64 (lsum σ F v)
  zero : (σ 0).total = 0 ∧ (σ 0).k0 = 0 ∧ (σ 0).k1 = 0 ∧ (σ 0).up = 0 ∧ (σ 0).first = 0
  pos : 0 < N

section
variable {N : Nat} {σ σ' : Tbl} {F G R : Fst} {par d rt : Nat → Nat} {t t' : BT} {u : Nat}

theorem LF.perm (h : LF N σ F par d rt) (hp : F.Perm G) : LF N σ G par d rt :=
  ⟨fun p hp' => h.rep p (hp.mem_iff.2 hp'), (fnodes_perm hp).nodup_iff.1 h.nd, fun x => (fnodes_perm hp).mem_iff.symm.trans (h.mem x), fun p hp' => h.up p (hp.mem_iff.2 hp'), fun p hp' => h.ch p (hp.mem_iff.2 hp'), h.dep, h.none, h.rt0, h.rt1,
    fun v h1 h2 => by rw [← lsum_perm hp]; exact h.light v h1 h2, h.zero, h.pos⟩

theorem mem_split_perm {p : BT × Nat} (h : p ∈ F) : ∃ R, F.Perm (p :: R) := by
  obtain ⟨A, B, rfl⟩ := List.append_of_mem h
  exact ⟨A ++ B, List.perm_middle⟩

theorem Rep.kids {x : Nat} : ∀ {t : BT} {u : Nat}, Rep σ t u → x ∈ t.nodes → ((σ x).k0 = 0 ∨ (σ x).k0 ∈ t.nodes) ∧ ((σ x).k1 = 0 ∨ (σ x).k1 ∈ t.nodes) ∧ (x = t.root ∨ ((σ x).up ∈ t.nodes)) ∧ (x = t.root → (σ x).up = u) ∧ (σ x).first ∈ t.nodes
  | .nil, _, _, hx => by cases hx
  | .node f l v r, u, ⟨h1, hl, hr, _, _, hb⟩, hx => by
    have hroot : ∀ t : BT, t.root = 0 ∨ t.root ∈ t.nodes := fun t => by
      by_cases e : t.root = 0
      · exact .inl e
      · exact .inr (BT.root_mem e)
    simp only [BT.nodes, List.mem_append, List.mem_cons] at hx ⊢
    by_cases e : x = v
    · subst e
      refine ⟨?_, ?_, .inl rfl, fun _ => h1.2.1, ?_⟩
      · rw [h1.2.2.2.1]; rcases hroot l with h | h; exact .inl h; exact .inr (.inl h)
      · rw [h1.2.2.2.2]; rcases hroot r with h | h; exact .inl h; exact .inr (.inr (.inr h))
      · have := hb.1; simpa [BT.nodes] using this
    · rcases hx with hx | hx | hx
      · obtain ⟨a, b, c, c', c2⟩ := Rep.kids hl hx
        refine ⟨a.imp id .inl, b.imp id .inl, .inr ?_, fun h => absurd h e, .inl c2⟩
        rcases c with c | c
        · rw [c' c]; exact .inr (.inl rfl)
        · exact .inl c
      · exact absurd hx e
      · obtain ⟨a, b, c, c', c2⟩ := Rep.kids hr hx
        refine ⟨a.imp id (fun h => .inr (.inr h)), b.imp id (fun h => .inr (.inr h)), .inr ?_, fun h => absurd h e, .inr (.inr c2)⟩
        rcases c with c | c
        · rw [c' c]; exact .inr (.inl rfl)
        · exact .inr (.inr c)

theorem LF.tree (h : LF N σ F par d rt) {x : Nat} (h0 : 0 < x) (hx : x < N) : ∃ t u R, F.Perm ((t, u) :: R) ∧ x ∈ t.nodes := by
  obtain ⟨p, hp, hxp⟩ := mem_fnodes.1 ((h.mem x).2 ⟨h0, hx⟩)
  obtain ⟨R, hR⟩ := mem_split_perm hp
  exact ⟨p.1, p.2, R, hR, hxp⟩

theorem LF.inR (h : LF N σ F par d rt) : InR N σ := by
  intro x hx
  by_cases h0 : x = 0
  · subst h0
    have := h.pos
    rw [h.zero.2.1, h.zero.2.2.1, h.zero.2.2.2.1, h.zero.2.2.2.2]; exact ⟨this, this, this, this⟩
  · obtain ⟨t, u, R, hR, hxt⟩ := h.tree (by omega) hx
    have h' := h.perm hR
    have hk := (h'.rep (t, u) (by simp)).kids hxt
    have hN : ∀ y, y ∈ t.nodes → y < N := fun y hy => ((h'.mem y).1 (by rw [fnodes_cons]; simp [hy])).2
    have hp := h.pos
    refine ⟨hk.1.elim (fun e => by omega) (hN _), hk.2.1.elim (fun e => by omega) (hN _), ?_, hN _ hk.2.2.2.2⟩
    rcases hk.2.2.1 with e | e
    · rw [hk.2.2.2.1 e]; exact h'.up (t, u) (by simp)
    · exact hN _ e

theorem seq_mem {t : BT} {x : Nat} : x ∈ t.seq ↔ x ∈ t.nodes := (BT.seq_perm t).mem_iff

theorem LF.lt (h : LF N σ F par d rt) {p : BT × Nat} (hp : p ∈ F) {x : Nat} (hx : x ∈ p.1.nodes) : 0 < x ∧ x < N := (h.mem x).1 (mem_fnodes.2 ⟨p, hp, hx⟩)
theorem LF.seq0 (h : LF N σ F par d rt) {p : BT × Nat} (hp : p ∈ F) : ∀ x ∈ p.1.seq, x ≠ 0 := fun x hx => by have := (h.lt hp (seq_mem.1 hx)).1; omega

theorem LF.outs (h : LF N σ ((t, u) :: R) par d rt) : Out σ u t.nodes := by
  by_cases hu : u = 0
  · exact .inl hu
  · right
    have hm : (t, u) ∈ (t, u) :: R := by simp
    have hd := ch_dep h.dep (h.ch _ hm) (h.seq0 hm) hu
    have hut : u ∉ t.nodes := fun e => Nat.lt_irrefl _ (hd u (seq_mem.2 e))
    have huN := h.up _ hm
    obtain ⟨q, hq, hqu⟩ := mem_fnodes.1 ((h.mem u).2 ⟨by omega, huN⟩)
    have hqR : q ∈ R := by
      rcases List.mem_cons.1 hq with rfl | hq
      · exact absurd hqu hut
      · exact hq
    have hk := (h.rep q hq).kids hqu
    have hnd := h.nd
    rw [fnodes_cons, List.nodup_append] at hnd
    have hdis : ∀ y, y ∈ q.1.nodes → y ∉ t.nodes := fun y hy hyt => hnd.2.2 y hyt y (mem_fnodes.2 ⟨q, hqR, hy⟩) rfl
    have h0 : (0 : Nat) ∉ t.nodes := fun e => by have := (h.lt hm e).1; omega
    exact ⟨hut, hk.1.elim (fun e => by rw [e]; exact h0) (hdis _), hk.2.1.elim (fun e => by rw [e]; exact h0) (hdis _)⟩

/-- One tree is another one with the same path. -/
theorem LF.splay (h : LF N σ ((t, u) :: R) par d rt) (hrep : Rep σ' t' u) (hseq : t'.seq = t.seq) (hperm : t'.nodes.Perm t.nodes) (hrot : Rotated σ σ' t.nodes) : LF N σ' ((t', u) :: R) par d rt := by
  have hnd := h.nd
  rw [fnodes_cons, List.nodup_append] at hnd
  have hfp : (fnodes ((t', u) :: R)).Perm (fnodes ((t, u) :: R)) := by rw [fnodes_cons, fnodes_cons]; exact hperm.append_right _
  refine ⟨fun p hp => ?_, hfp.nodup_iff.2 h.nd, fun x => hfp.mem_iff.trans (h.mem x), fun p hp => ?_, fun p hp => ?_, h.dep, h.none, h.rt0, h.rt1, fun v h1 h2 => ?_, ?_, h.pos⟩
  · rcases List.mem_cons.1 hp with rfl | hp
    · exact hrep
    · exact (h.rep p (by simp [hp])).congr (fun x hx => hrot.other x (fun e => hnd.2.2 x e x (mem_fnodes.2 ⟨p, hp, hx⟩) rfl))
  · rcases List.mem_cons.1 hp with rfl | hp
    · exact h.up (t, u) (by simp)
    · exact h.up p (by simp [hp])
  · rcases List.mem_cons.1 hp with rfl | hp
    · show Ch par u t'.seq; rw [hseq]; exact h.ch (t, u) (by simp)
    · exact h.ch p (by simp [hp])
  · rw [(hrot.lk v).1, h.light v h1 h2]
    congr 1
    rw [lsum_congr (fun x _ => (hrot.lk x).1)]
    simp only [lsum]
    rw [tot_perm hperm]
  · rw [hrot.other 0 (fun e => by have := (h.lt (p := (t, u)) (by simp) e).1; omega)]; exact h.zero

theorem total_root (hz : (σ 0).total = 0) (h : Rep σ t u) : (σ t.root).total = wrap64 (tot σ t.nodes) := by
  cases t with
  | nil => show (σ 0).total = _; rw [hz]; simp [BT.nodes, tot, wrap64]
  | node f l v r => exact h.2.2.2.2.1
end

/-- What a round of expose makes of the table. -/
def xst1 (σ : Tbl) (j B : Nat) : Tbl := σ.upd j { σ j with light := wrap64 ((σ j).light + wrap64 ((σ (σ j).k1).total - (σ B).total)) }
def xst2 (σ : Tbl) (j B : Nat) : Tbl := (xst1 σ j B).upd j { xst1 σ j B j with k1 := B }
def xstep (σ : Tbl) (j B : Nat) : Tbl := refresh (xst2 σ j B) j

theorem xst2_other {σ : Tbl} {j B x : Nat} (h : x ≠ j) : xst2 σ j B x = σ x := by unfold xst2 xst1; rw [upd_other h, upd_other h]
theorem xst2_at (σ : Tbl) (j B : Nat) : xst2 σ j B j = { σ j with light := wrap64 ((σ j).light + wrap64 ((σ (σ j).k1).total - (σ B).total)), k1 := B } := by unfold xst2 xst1; rw [upd_same, upd_same]

section
variable {N : Nat} {σ : Tbl} {R : Fst} {par d rt : Nat → Nat} {l r B : BT} {j u : Nat}
theorem LF.xstep (h : LF N σ ((.node false l j r, u) :: (B, j) :: R) par d rt) :
    LF N (xstep σ j B.root) ((.node false l j B, u) :: (r, j) :: R) par d rt ∧ (∀ x, x ≠ j → xstep σ j B.root x = σ x) ∧ (∀ x, (xstep σ j B.root x).key = (σ x).key) ∧
      (σ j).k1 = r.root ∧ (xst2 σ j B.root j).k0 ≠ j ∧ (xst2 σ j B.root j).k1 ≠ j ∧ InR N (xst2 σ j B.root) := by
  have m1 : (BT.node false l j r, u) ∈ (BT.node false l j r, u) :: (B, j) :: R := by simp
  have m2 : (B, j) ∈ (BT.node false l j r, u) :: (B, j) :: R := by simp
  obtain ⟨⟨hj0, hju, hjf, hk0, hk1⟩, hl, hr, _⟩ := h.rep _ m1
  have hB : Rep σ B j := h.rep _ m2
  have hnd := h.nd
  have hmem := h.mem
  simp only [fnodes_cons, BT.nodes, List.nodup_append, List.nodup_cons, List.mem_append, List.mem_cons, List.append_assoc, List.cons_append] at hnd hmem
  have djl : j ∉ l.nodes := by grind
  have djr : j ∉ r.nodes := by grind
  have djB : j ∉ B.nodes := by grind
  have djR : j ∉ fnodes R := by grind
  have hB0 : ∀ b : BT, j ∉ b.nodes → b.root ≠ j := fun b hb e => hb (e ▸ BT.root_mem (by rw [e]; exact hj0))
  have hjN : j < N := (h.lt m1 (by simp [BT.nodes])).2
  have htr := total_root h.zero.1 hr
  have htB := total_root h.zero.1 hB
  have huj : u ≠ j := by
    rintro rfl
    have := h.outs
    rcases this with e | ⟨e, _⟩
    · exact hj0 e
    · exact e (by simp [BT.nodes])
  have hR2 : InR N (xst2 σ j B.root) := by
    have hi := h.inR
    intro x hx
    by_cases e : x = j
    · subst e; rw [xst2_at]
      refine ⟨(hi x hx).1, ?_, (hi x hx).2.2.1, (hi x hx).2.2.2⟩
      by_cases e : B.root = 0
      · show B.root < N; rw [e]; exact h.pos
      · exact (h.lt m2 (BT.root_mem e)).2
    · rw [xst2_other e]; exact hi x hx
  have hcg : ∀ x, x ≠ j → xst2 σ j B.root x = σ x := fun x hx => xst2_other hx
  have hq0 : (xst2 σ j B.root j).k0 ≠ j := by rw [xst2_at]; show (σ j).k0 ≠ j; rw [hk0]; exact hB0 l djl
  have hq1 : (xst2 σ j B.root j).k1 ≠ j := by rw [xst2_at]; exact hB0 B djB
  have hoth : ∀ x, x ≠ j → Proofs.Ytoppjjgecgbbkaa.xstep σ j B.root x = σ x := fun x hx => by unfold Proofs.Ytoppjjgecgbbkaa.xstep; rw [refresh_other hx, hcg x hx]
  have hkey : ∀ x, (Proofs.Ytoppjjgecgbbkaa.xstep σ j B.root x).key = (σ x).key := by
    intro x
    by_cases e : x = j
    · subst e; unfold Proofs.Ytoppjjgecgbbkaa.xstep; rw [refresh_links.2.2.2.2.1, xst2_at]
    · rw [hoth x e]
  have hnew : Rep (Proofs.Ytoppjjgecgbbkaa.xstep σ j B.root) (.node false l j B) u :=
    refresh_rep hj0 (by rw [xst2_at]; exact hju) (by rw [xst2_at]; exact hjf) (by rw [xst2_at]; exact hk0) (by rw [xst2_at]) (hl.congr (fun x hx => hcg x (fun e => djl (e ▸ hx)))) (hB.congr (fun x hx => hcg x (fun e => djB (e ▸ hx)))) djl djB
  have hll : (Proofs.Ytoppjjgecgbbkaa.xstep σ j B.root j).light = wrap64 ((σ j).light + (tot σ r.nodes - tot σ B.nodes)) := by
    unfold Proofs.Ytoppjjgecgbbkaa.xstep; rw [refresh_links.2.2.2.2.2, xst2_at]
    show wrap64 ((σ j).light + wrap64 ((σ (σ j).k1).total - (σ B.root).total)) = _
    rw [hk1, htr, htB]; unfold wrap64; omega
  have hch := h.ch _ m1
  simp only [BT.seq, Bool.false_eq_true, if_false] at hch
  have hchB : Ch par j B.seq := h.ch _ m2
  have hfp : (fnodes ((.node false l j B, u) :: (r, j) :: R)).Perm (fnodes ((.node false l j r, u) :: (B, j) :: R)) := by
    simp only [fnodes_cons, BT.nodes, List.append_assoc, List.cons_append]
    refine .append_left _ (.cons _ ?_)
    rw [← List.append_assoc, ← List.append_assoc]
    exact List.perm_append_comm.append_right _
  refine ⟨⟨fun p hp => ?_, hfp.nodup_iff.2 h.nd, fun x => hfp.mem_iff.trans (h.mem x), fun p hp => ?_, fun p hp => ?_, h.dep, h.none, h.rt0, h.rt1, fun v h1 h2 => ?_, ?_, h.pos⟩, hoth, hkey, hk1, hq0, hq1, hR2⟩
  · rcases List.mem_cons.1 hp with rfl | hp
    · exact hnew
    rcases List.mem_cons.1 hp with rfl | hp
    · exact hr.congr (fun x hx => hoth x (fun e => djr (e ▸ hx)))
    · exact (h.rep p (by simp [hp])).congr (fun x hx => hoth x (fun e => djR (e ▸ mem_fnodes.2 ⟨p, hp, hx⟩)))
  · rcases List.mem_cons.1 hp with rfl | hp
    · exact h.up (BT.node false l j r, u) m1
    rcases List.mem_cons.1 hp with rfl | hp
    · exact hjN
    · exact h.up p (by simp [hp])
  · rcases List.mem_cons.1 hp with rfl | hp
    · simp only [BT.seq, Bool.false_eq_true, if_false]
      exact ch_mid.2 ⟨(ch_mid.1 hch).1, hchB⟩
    rcases List.mem_cons.1 hp with rfl | hp
    · exact (ch_mid.1 hch).2
    · exact h.ch p (by simp [hp])
  · have e1 : tot (Proofs.Ytoppjjgecgbbkaa.xstep σ j B.root) l.nodes = tot σ l.nodes := tot_congr (fun x hx => by rw [hoth x (fun e => djl (e ▸ hx))])
    have e2 : tot (Proofs.Ytoppjjgecgbbkaa.xstep σ j B.root) r.nodes = tot σ r.nodes := tot_congr (fun x hx => by rw [hoth x (fun e => djr (e ▸ hx))])
    have e3 : tot (Proofs.Ytoppjjgecgbbkaa.xstep σ j B.root) B.nodes = tot σ B.nodes := tot_congr (fun x hx => by rw [hoth x (fun e => djB (e ▸ hx))])
    have e4 : lsum (Proofs.Ytoppjjgecgbbkaa.xstep σ j B.root) R v = lsum σ R v := lsum_congr (fun x hx => by rw [hoth x (fun e => djR (e ▸ hx))])
    have tn : ∀ (τ : Tbl) (b : BT), tot τ (BT.node false l j b).nodes = tot τ l.nodes + (1 + (τ j).light) + tot τ b.nodes := by
      intro τ b; simp only [BT.nodes, tot, List.map_append, List.map_cons, List.sum_append, List.sum_cons]; omega
    have hlv := h.light v h1 h2
    simp only [lsum] at hlv ⊢
    rw [tn] at hlv ⊢
    rw [e1, e2, e3, e4, hll]
    by_cases ev : v = j
    · subst ev
      rw [hll]
      rw [if_neg huj] at hlv ⊢
      rw [if_pos rfl] at hlv ⊢
      rw [hlv]; unfold wrap64; omega
    · rw [hoth v ev, hlv, if_neg (show ¬ j = v from fun e => ev e.symm)]
      by_cases eu : u = v
      · rw [if_pos eu, if_pos eu, if_neg (show ¬ j = v from fun e => ev e.symm)]; unfold wrap64; omega
      · rw [if_neg eu, if_neg eu, if_neg (show ¬ j = v from fun e => ev e.symm)]
  · rw [hoth 0 (fun e => hj0 e.symm)]; exact h.zero
end

end Go.Proofs.Ytoppjjgecgbbkaa
