/- LctCounts: the walk. -/
import Derived.Deep.LoopGhost
import Derived.Test.YtoppjjgecgbbkaaLctCutsZ7
import Derived.Deep.Slices
import Derived.ChangeSame
import Derived.OpenShut
import Derived.Test.YtoppjjgecgbbkaaLctCutsZ1
/- lct: visit, with the function that Path hands to it, and Path. -/
namespace Go.Proofs.Ytoppjjgecgbbkaa
open Go.RowKit
set_option maxRecDepth 10000
set_option maxHeartbeats 800000

/-- What lies to the left of the hole, and to the right of it (no pending flips). -/
def lefts : List Fm → List Nat
  | [] => []
  | a :: c => lefts c ++ (if a.s then a.o.seq ++ [a.p] else [])
def rights : List Fm → List Nat
  | [] => []
  | a :: c => (if a.s then [] else a.p :: a.o.seq) ++ rights c
theorem plug_lr : ∀ {c : List Fm} {t : BT}, (∀ a ∈ c, a.f = false) → (plug c t).seq = lefts c ++ t.seq ++ rights c
  | [], t, _ => by simp [plug, lefts, rights]
  | a :: c, t, h => by
    simp only [plug]
    rw [plug_lr (fun b hb => h b (by simp [hb]))]
    have hf := h a (by simp)
    obtain ⟨s, f, p, o⟩ := a
    dsimp only at hf; subst hf
    cases s <;> simp [Fm.fill, BT.seq, lefts, rights]
/-- The places of the frames whose hole is on the left: they are still to be visited. -/
def opens : List Fm → List Nat
  | [] => []
  | a :: c => if a.s then opens c else a.p :: opens c
/-- How many rounds are still to come. -/
def toGo : List Fm → Nat
  | [] => 0
  | a :: c => (if a.s then 0 else 1 + 2 * a.o.nodes.length) + toGo c

/-- The nearest frame whose hole is on the left. -/
theorem opens_split : ∀ {c : List Fm} {p : Nat} {ps : List Nat}, opens c = p :: ps → ∃ rs a c', c = rs ++ a :: c' ∧ (∀ b ∈ rs, b.s = true) ∧ a.s = false ∧ a.p = p ∧ opens c' = ps
  | [], p, ps, h => by cases h
  | a :: c, p, ps, h => by
    simp only [opens] at h
    cases hs : a.s with
    | true =>
      rw [hs, if_pos rfl] at h
      obtain ⟨rs, b, c', rfl, h2, h3, h4, h5⟩ := opens_split h
      exact ⟨a :: rs, b, c', rfl, fun x hx => by rcases List.mem_cons.1 hx with rfl | hx; exact hs; exact h2 x hx, h3, h4, h5⟩
    | false =>
      rw [hs, if_neg (by simp)] at h
      simp only [List.cons.injEq] at h
      exact ⟨[], a, c, rfl, fun x hx => (by cases hx), hs, h.1, h.2⟩
theorem opens_app {rs : List Fm} (h : ∀ b ∈ rs, b.s = true) (c : List Fm) : opens (rs ++ c) = opens c := by
  induction rs with
  | nil => rfl
  | cons a rs ih => simp only [List.cons_append, opens]; rw [h a (by simp), if_pos rfl, ih (fun b hb => h b (by simp [hb]))]
theorem toGo_app {rs : List Fm} (h : ∀ b ∈ rs, b.s = true) (c : List Fm) : toGo (rs ++ c) = toGo c := by
  induction rs with
  | nil => rfl
  | cons a rs ih => simp only [List.cons_append, toGo]; rw [h a (by simp), if_pos rfl, ih (fun b hb => h b (by simp [hb]))]; omega
theorem plug_app : ∀ (rs c : List Fm) (t : BT), plug (rs ++ c) t = plug c (plug rs t)
  | [], _, _ => rfl
  | a :: rs, c, t => by simp only [List.cons_append, plug]; exact plug_app rs c (a.fill t)
theorem lefts_app : ∀ (rs c : List Fm), lefts (rs ++ c) = lefts c ++ lefts rs
  | [], c => by simp [lefts]
  | a :: rs, c => by simp only [List.cons_append, lefts]; rw [lefts_app rs c, List.append_assoc]
theorem rights_right {rs : List Fm} (h : ∀ b ∈ rs, b.s = true) : rights rs = [] := by
  induction rs with
  | nil => rfl
  | cons a rs ih => simp only [rights]; rw [h a (by simp), if_pos rfl, ih (fun b hb => h b (by simp [hb]))]; rfl

/-- Between two rounds of visit: t is still to come, then what the frames hold. -/
structure Vis (N : Nat) (σ : Tbl) (u : Nat) (t₀ : BT) (τ : Tbl) (c : List Fm) (t : BT) : Prop where
  rep : Rep τ (plug c t) u
  ff : ∀ a ∈ c, a.f = false
  seq : (plug c t).seq = t₀.seq
  perm : (plug c t).nodes.Perm t₀.nodes
  rot : Rotated σ τ t₀.nodes
  inR : InR N τ

section
variable {N : Nat} {σ τ : Tbl} {u : Nat} {t₀ : BT} {c : List Fm} {f : Bool} {l r : BT} {v : Nat}
theorem Vis.down (h : Vis N σ u t₀ τ c (.node f l v r)) (hnd : t₀.nodes.Nodup) (hv : v < N) : ∃ l' r', (push τ v v).k0 = l'.root ∧ Vis N σ u t₀ (push τ v) (⟨false, false, v, r'⟩ :: c) l' ∧ l'.nodes.length + r'.nodes.length = l.nodes.length + r.nodes.length := by
  obtain ⟨h1, h2⟩ := push_rep h.rep (h.perm.nodup_iff.2 hnd)
  obtain ⟨l', r', e, hlen⟩ : ∃ l' r', (BT.node f l v r).pushed = .node false l' v r' ∧ l'.nodes.length + r'.nodes.length = l.nodes.length + r.nodes.length := by
    cases f with
    | false => exact ⟨l, r, rfl, rfl⟩
    | true => exact ⟨r.flip, l.flip, rfl, by rw [BT.nodes_flip, BT.nodes_flip]; omega⟩
  have hperm : (plug c (BT.node f l v r).pushed).nodes.Perm (plug c (.node f l v r)).nodes := (plug_nodes c _).trans (((pushed_perm (.node f l v r)).append_right _).trans (plug_nodes c _).symm)
  have hseq : (plug c (BT.node f l v r).pushed).seq = (plug c (.node f l v r)).seq := plug_seq c (pushed_seq _)
  rw [e] at h1 hperm hseq
  refine ⟨l', r', ?_, ⟨h1, fun a ha => ?_, hseq.trans h.seq, hperm.trans h.perm, h.rot.trans (h2.perm (fun _ => h.perm.mem_iff)), h.inR.push v hv⟩, hlen⟩
  · exact (rep_plug.1 h1).1.1.2.2.2.1
  · rcases List.mem_cons.1 ha with rfl | ha
    · rfl
    · exact h.ff a ha
theorem Vis.right {rs c' : List Fm} {a : Fm} (h : Vis N σ u t₀ τ (rs ++ a :: c') .nil) (hr : ∀ b ∈ rs, b.s = true) (ha : a.s = false) : (τ a.p).k1 = a.o.root ∧ Vis N σ u t₀ τ (⟨true, false, a.p, plug rs .nil⟩ :: c') a.o ∧ lefts (⟨true, false, a.p, plug rs .nil⟩ :: c') = lefts (rs ++ a :: c') ++ [a.p] := by
  have haf := h.ff a (by simp)
  have hrf : ∀ b ∈ rs, b.f = false := fun b hb => h.ff b (by simp [hb])
  obtain ⟨s, f, p, o⟩ := a
  dsimp only at haf ha ⊢
  subst haf; subst ha
  have e : plug (rs ++ (⟨false, false, p, o⟩ : Fm) :: c') .nil = plug (⟨true, false, p, plug rs .nil⟩ :: c') o := by
    rw [plug_app]; simp [plug, Fm.fill]
  have h1 := h.rep
  rw [e] at h1
  refine ⟨?_, ⟨h1, fun b hb => ?_, by rw [← e]; exact h.seq, by rw [← e]; exact h.perm, h.rot, h.inR⟩, ?_⟩
  · have := (rep_plug.1 h1).2.1.2.2.2.1
    simpa [kid, sd] using this
  · rcases List.mem_cons.1 hb with rfl | hb
    · rfl
    · exact h.ff b (by simp [hb])
  · rw [lefts_app]
    simp only [lefts, if_true]
    rw [plug_lr hrf, rights_right hr]
    simp [BT.seq]
end

theorem opens_nil : ∀ {c : List Fm}, opens c = [] → rights c = []
  | [], _ => rfl
  | a :: c, h => by
    simp only [opens] at h
    cases hs : a.s with
    | true => rw [hs, if_pos rfl] at h; simp only [rights]; rw [hs, if_pos rfl, opens_nil h]; rfl
    | false => rw [hs, if_neg (by simp)] at h; cases h
theorem Vis.fin {N : Nat} {σ τ : Tbl} {u : Nat} {t₀ : BT} {c : List Fm} (h : Vis N σ u t₀ τ c .nil) (ho : opens c = []) : lefts c = t₀.seq := by
  rw [← h.seq, plug_lr h.ff, opens_nil ho]; simp [BT.seq]

theorem ownsRow_cut {w : World} {e : TypeId} {g n cap : Nat} {xs : List Value} (h : w.ownsRow 0 e 1 (.slice (some ⟨g, 0, none⟩) (n + 1) cap) (n + 1) xs) : w.ownsRow 0 e 1 (.slice (some ⟨g, 0, none⟩) n cap) n (xs.take n) := by
  obtain ⟨h1, h2⟩ := h
  rcases h2 with ⟨h2, _⟩ | ⟨g', cap', cur, e1, _, hh, hn, hm, hsz, hxs⟩
  · cases h2
  · simp only [Value.slice.injEq, Option.some.injEq, Addr.mk.injEq, and_true, true_and] at e1
    obtain ⟨rfl, rfl⟩ := e1
    refine ⟨by rw [List.length_take]; omega, .inr ⟨g, cap, cur, rfl, Nat.zero_le _, hh, by omega, hm, hsz, ?_⟩⟩
    rw [← hxs, List.take_take]; congr 1; omega

theorem opens_len : ∀ c : List Fm, (opens c).length ≤ (cnodes c).length
  | [] => Nat.le_refl _
  | a :: c => by
    have := opens_len c
    simp only [opens, cnodes]
    split
    · simp; omega
    · simp; omega

def encP (x : Nat) : Value := .int .i64 ((x : Int) - 1)

/-- A variable that holds a row of its own. -/
structure Holds (w : World) (n₀ Bl : Nat) (v : Value) (xs : List Value) : Prop where
  box : Blk w Bl 41 [v]
  row : w.ownsRow 0 3 1 v xs.length xs
  own : ∀ q, v.ownBlock = some q → n₀ ≤ q ∧ q ≠ Bl
theorem Holds.fr {w w' : World} {n₀ Bl : Nat} {v : Value} {xs : List Value} {S : List Nat} (h : Holds w n₀ Bl v xs) (hf : Fr S w w') (h1 : Bl ∉ S) (h2 : ∀ q, v.ownBlock = some q → q ∉ S) : Holds w' n₀ Bl v xs :=
  ⟨hf.blk h.box h1, ownsRow_same h.row (fun q hq => hf.keep q (h.row.lt q hq).2 (h2 q hq)), h.own⟩

theorem path1_w {w : World} {n₀ Bl : Nat} {v : Value} {xs : List Value} (h : Holds w n₀ Bl v xs) (hB : n₀ ≤ Bl) (i : Nat) (hi : i ≤ 65537) (hl : xs.length ≤ 65537) :
    Calls Try.prog 40 #[.int .i64 i, .pointer (some ⟨Bl, 0, none⟩)] w fun e w' => e = .returned (.tuple #[]) ∧ ∃ v', Holds w' n₀ Bl v' (xs ++ [encP i]) ∧ Fr (Bl :: v.ownBlock.toList) w w' ∧ ∀ q, v'.ownBlock = some q → v.ownBlock = some q ∨ w.heap.size ≤ q := by
  have c0 : w.cell? ⟨Bl, 0, none⟩ = some v := h.box.cell 0
  obtain ⟨a9, c9, rfl⟩ := ownsRow_slice h.row
  have hlt := h.box.lt
  have hrow := h.row
  have HH := Lib.hid h; clear h
  go_enter Try.func40, Try.ntmps40
  go_wp2_with (at_builtin; refine wpList_app1 rfl _ _ 41 rfl 3 (.int .i64 0) 8 Try.underlying41 Try.info3 rfl (.slice a9 xs.length c9) xs.length _ rfl (hrow.alloc _) w.heap.size (.int .i64 ((i : Int) - 1)) rfl (cell_new1 _ _ _ _ rfl) rfl (by omega) (by decide) ?_; intro g' cap' w3 hown3 hgrow3 hg3; have hbx : Blk w3 Bl 41 [.slice a9 xs.length c9] := (HH.out.box.alloc _).of_same (hgrow3.block Bl (by simp; omega) (fun e => (HH.out.own Bl e.symm).2 rfl)); have hbc : w3.cell? ⟨Bl, 0, none⟩ = some (.slice a9 xs.length c9) := hbx.cell 0; have hbf := hbx.frozen 0)
  go_end0
  have hsz := hgrow3.size
  simp only [World.size_alloc] at hsz hg3
  have hF3 : Fr (Value.slice a9 xs.length c9).ownBlock.toList w w3 := ⟨hgrow3.os, hgrow3.tape, hgrow3.output, by omega, fun q hq hn => by
    rw [hgrow3.block q (by simp; omega) (fun e => hn (by simp [← e])), Below.heap_alloc _ _ _ hq]⟩
  have hgB : g' ≠ Bl := by
    rcases hg3 with e | e
    · exact (HH.out.own _ e).2
    · omega
  refine ⟨rfl, .slice (some ⟨g', 0, none⟩) (xs.length + 1) cap', ⟨?_, ?_, ?_⟩, ?_, ?_⟩
  · have := hbx.set 0 (.slice (some ⟨g', 0, none⟩) (xs.length + 1) cap')
    simpa using this
  · rw [List.length_append]
    refine ownsRow_other hown3 _ _ ?_
    simp only [Value.ownBlock, ne_eq, Option.some.injEq]; exact hgB
  · intro q hq
    simp only [Value.ownBlock, Option.some.injEq] at hq
    subst hq
    refine ⟨?_, hgB⟩
    rcases hg3 with e | e
    · exact (HH.out.own _ e).1
    · omega
  · exact (hF3.mono (S' := Bl :: (Value.slice a9 xs.length c9).ownBlock.toList) (fun b hb => .inl (by simp [hb]))).setCell _ _ (.inl (by simp))
  · intro q hq
    simp only [Value.ownBlock, Option.some.injEq] at hq
    subst hq
    rcases hg3 with e | e
    · exact .inl e
    · exact .inr (by omega)

theorem visit_w {w : World} {pf g N cap : Nat} {σ : Tbl} {ed : Int} (h : LctAt w pf g N cap σ ed) (hR : InR N σ) {t₀ : BT} {u n₀ Bl : Nat} {v₀ : Value} (hrep : Rep σ t₀ u) (hnd : t₀.nodes.Nodup) (hlt : ∀ x ∈ t₀.nodes, x < N)
    (hH : Holds w n₀ Bl v₀ []) (hp : pf < n₀) (hg : g < n₀) (hB : n₀ ≤ Bl) (hnw : n₀ ≤ w.heap.size) :
    Calls Try.prog 39 #[.pointer (some ⟨pf, 0, none⟩), .int .i64 t₀.root, .func (.func 40) #[] #[.pointer (some ⟨Bl, 0, none⟩)]] w fun e w' => e = .returned (.tuple #[]) ∧
      ∃ τ t' v, LctAt w' pf g N cap τ ed ∧ Rep τ t' u ∧ t'.seq = t₀.seq ∧ t'.nodes.Perm t₀.nodes ∧ Rotated σ τ t₀.nodes ∧ Holds w' n₀ Bl v (t₀.seq.map encP) ∧ Bx n₀ g w w' := by
  have hN := h.le
  have hlen : t₀.nodes.length ≤ N := nodup_le hnd hlt
  have HV := Lib.hid (show Vis N σ u t₀ σ [] t₀ from ⟨hrep, fun _ h => (by cases h), rfl, .refl _, Rotated.refl _ _, hR⟩)
  have HND := Lib.hid hnd; clear hnd
  have HLT := Lib.hid hlt; clear hlt hrep hR
  go_enter Try.func39, Try.ntmps39
  go_wp2
  go_loopg [1, 6] (2 * t₀.nodes.length + 1) (fun k x o wr => ∃ (τ : Tbl) (c : List Fm) (t : BT) (v : Value) (i : Nat), x = .int .i64 i ∧ Hid (t.root = i) ∧ LctAt wr pf g N cap τ ed ∧ wr.ownsRow 0 3 1 o (opens c).length ((opens c).reverse.map encI) ∧ Bx n₀ g w wr ∧
    Hid (Vis N σ u t₀ τ c t ∧ 2 * t.nodes.length + toGo c < k) ∧ Hid (Holds wr n₀ Bl v ((lefts c).map encP)) ∧ Hid (∀ q, o.ownBlock = some q → n₀ ≤ q ∧ q ≠ Bl ∧ v.ownBlock ≠ some q))
  case atStart => exact ⟨σ, [], t₀, v₀, t₀.root, rfl, Lib.hid rfl, h, World.ownsRow_nil _ _ _ _, Bx.refl _ _ _, Lib.hid ⟨HV.out, by simp [toGo]⟩, Lib.hid hH, Lib.hid (fun q e => by cases e)⟩
  case round =>
    clear h HV hH
    obtain ⟨τ, c, t, v, i, rfl, Hi, hL, hown, hBx, HV, HH, HQ⟩ := hrel
    obtain ⟨a9, c9, rfl⟩ := ownsRow_slice hown
    have hsw := hBx.size
    have d1 := hL.hd.cell 1
    simp only [List.getElem?_cons_zero, List.getElem?_cons_succ] at d1
    have hol : (opens c).length ≤ N := by
      have h1 := opens_len c
      have h2 := (plug_nodes c t).length_eq
      have h3 := HV.out.1.perm.length_eq
      simp only [List.length_append] at h2
      omega
    have hll : (lefts c).length ≤ N := by
      have h1 := congrArg List.length (plug_lr (t := t) HV.out.1.ff)
      have h2 := (BT.seq_perm (plug c t)).length_eq
      have h3 := HV.out.1.perm.length_eq
      simp only [List.length_append] at h1
      omega
    cases t with
    | node f l x r =>
      obtain rfl : x = i := Hi.out
      have hx0 : x ≠ 0 := (rep_plug.1 HV.out.1.rep).1.1.1
      have hxN : x < N := HLT.out x (HV.out.1.perm.mem_iff.1 ((plug_nodes c _).mem_iff.2 (by simp [BT.nodes])))
      have hb0 : ((x : Int) == 0) = false := beq_eq_false_iff_ne.2 (by omega)
      have hb1 : ((x : Int) != 0) = true := bne_iff_ne.2 (by omega)
      have hx2 : (x : Int) < N := by omega
      obtain ⟨l', r', hk0, hV', hlr⟩ := HV.out.1.down HND.out hxN
      have HVn := Lib.hid hV'; clear hV'
      have hmu := HV.out.2
      simp only [BT.nodes, List.length_append, List.length_cons] at hmu
      have HP := Lib.hid (push_w hL x hxN HV.out.1.inR)
      clear HV
      have Hx0 := Lib.hid hx0; clear hx0
      go_wp2_with fail
      refine HP.out.mono ?_
      rintro _ w2 ⟨rfl, hL2, hF2⟩
      clear HP hL d1
      have hown2 : w2.ownsRow 0 3 1 (.slice a9 (opens c).length c9) (opens c).length ((opens c).reverse.map encI) := ownsRow_same hown (fun q hq => hF2.keep q (hown.lt q hq).2 (by have := (HQ.out q hq).1; simp; omega))
      have hH2 := HH.out.fr hF2 (by simp; omega) (fun q hq => by have := (HH.out.own q hq).1; simp; omega)
      have HH2 := Lib.hid hH2; clear hH2 hown
      have hBx2 := hBx.trans (Bx.of_fr hF2 (Nat.le_trans hnw hBx.size))
      have hs2 := hF2.size
      go_wp2_with (at_builtin; refine wpList_app1 rfl _ _ 41 rfl 3 (.int .i64 0) 8 Try.underlying41 Try.info3 rfl (.slice a9 (opens c).length c9) (opens c).length _ rfl (hown2.alloc _) w2.heap.size (.int .i64 x) rfl (cell_new1 _ _ _ _ rfl) rfl (by omega) (by decide) ?_; intro g' cap' w3 hown3 hgrow3 hg3; have hF3 : Fr (Value.slice a9 (opens c).length c9).ownBlock.toList w2 w3 := ⟨hgrow3.os, hgrow3.tape, hgrow3.output, by have := hgrow3.size; simp at this; omega, fun q hq hn => by rw [hgrow3.block q (by simp; omega) (fun e => hn (by simp [← e])), Below.heap_alloc _ _ _ hq]⟩; have hL3 : LctAt w3 pf g N cap (push τ x) ed := hL2.grown (w := w2) (row := (Value.slice a9 (opens c).length c9).ownBlock) ⟨hF3.os, hF3.tape, hF3.output, hF3.size, fun k hk hn => hF3.keep k hk (by simpa using fun e => hn e.symm)⟩ (fun k e => by have := (HQ.out k e).1; omega); have d3 : w3.cell? ⟨pf, 1, none⟩ = some (.slice (some ⟨g, 0, none⟩) N cap) := hL3.hd.cell 1; have k3 := hL3.nodes.c0 x hxN; rw [hk0] at k3)
      go_roundg (2 * l'.nodes.length + toGo (⟨false, false, x, r'⟩ :: c) + 1)
      case measure => simp only [toGo, Bool.false_eq_true, if_false]; omega
      case rel =>
        simp only [World.size_alloc] at hg3
        have hvB : ∀ q, v.ownBlock = some q → q < w2.heap.size := fun q hq => (HH2.out.row.lt q hq).2
        refine ⟨push τ x, ⟨false, false, x, r'⟩ :: c, l', v, l'.root, rfl, Lib.hid rfl, hL3, ?_, ?_, Lib.hid ⟨HVn.out, Nat.lt_succ_self _⟩, Lib.hid ?_, Lib.hid ?_⟩
        · simp only [opens, Bool.false_eq_true, if_false, List.reverse_cons, List.map_append, List.length_cons, List.map_cons, List.map_nil]
          exact hown3
        · exact hBx2.trans ⟨hF3.os, hF3.tape, hF3.output, hF3.size, fun k hk hn => hF3.keep k (by omega) (fun hm => by have := (HQ.out k (by simpa using hm)).1; omega)⟩
        · have e : lefts (⟨false, false, x, r'⟩ :: c) = lefts c := by simp [lefts]
          rw [e]
          exact HH2.out.fr hF3 (fun hm => (HQ.out Bl (by simpa using hm)).2.1 rfl) (fun q hq hm => (HQ.out q (by simpa using hm)).2.2 hq)
        · intro q hq
          simp only [Value.ownBlock, Option.some.injEq] at hq
          subst hq
          rcases hg3 with e | e
          · exact HQ.out _ e
          · refine ⟨by omega, ?_, fun e2 => ?_⟩
            · have := HH2.out.box.lt; omega
            · have := hvB _ e2; omega
    | nil =>
      obtain rfl : 0 = i := Hi.out
      cases ho : opens c with
      | nil =>
        have hfin := HV.out.1.fin ho
        have HV1 := Lib.hid HV.out.1
        have HH1 := HH.out
        rw [hfin] at HH1
        have HH2 := Lib.hid HH1
        clear HH1 hfin HV HH HQ hown ho hol hll
        go_wp2
        go_end0
        exact ⟨rfl, τ, _, v, hL, HV1.out.rep, HV1.out.seq, HV1.out.perm, HV1.out.rot, HH2.out, hBx⟩
      | cons p ps =>
        have Ho := Lib.hid ho
        rw [ho] at hown hol
        clear ho
        obtain ⟨ob, c9', e⟩ := ownsRow_succ hown
        simp only [List.length_cons, Value.slice.injEq, true_and] at e
        obtain ⟨rfl, rfl⟩ := e
        simp only [List.length_cons, List.reverse_cons, List.map_append, List.map_cons, List.map_nil] at hown hol
        obtain ⟨hcp, hob, hcell⟩ := ownsRow_cells hown (by omega)
        have hc1 : wr.cell? ⟨ob, ps.length, none⟩ = some (.int .i64 p) := by
          rw [hcell ps.length (by omega), List.getElem?_append_right (by simp)]
          simp [encI]
        have hcut := ownsRow_cut hown
        have e2 : (List.map encI ps.reverse ++ [encI p]).take ps.length = ps.reverse.map encI := by
          rw [List.take_append_of_le_length (by simp), List.take_of_length_le (by simp)]
        rw [e2] at hcut
        clear hcell e2
        obtain ⟨rs, a, c', hc, h2, h3, h4, h5⟩ := opens_split Ho.out
        subst hc
        obtain ⟨hk1, hVn, hlf⟩ := HV.out.1.right h2 h3
        have hmu := HV.out.2
        rw [toGo_app h2] at hmu
        simp only [toGo, h3, Bool.false_eq_true, if_false, BT.nodes, List.length_nil] at hmu
        rw [h4] at hk1 hVn hlf
        have hpN : p < N := HLT.out p (HV.out.1.perm.mem_iff.1 ((plug_nodes _ _).mem_iff.2 (by
          rw [List.mem_append]; right; rw [← h4]; exact cnodes_p (by simp))))
        have HVn := Lib.hid hVn
        have Hlf := Lib.hid hlf
        have Hh5 := Lib.hid h5
        clear hVn hlf h5 HV h2 h3 h4 Ho hown
        have hp2 : (p : Int) < N := by omega
        have hln : ((lefts (rs ++ a :: c')).map encP).length ≤ 65537 := by simp; omega
        have HP := Lib.hid (path1_w HH.out hB p (by omega) hln)
        have hpl : ((ps.length : Int) + 1) - 1 = ps.length := by omega
        go_wp2_with fail
        refine HP.out.mono ?_
        rintro _ w2 ⟨rfl, v', hH', hF', hv'⟩
        have hHo : ∀ q, q ∈ Bl :: v.ownBlock.toList → n₀ ≤ q := by
          intro q hq
          rcases List.mem_cons.1 hq with rfl | hq
          · exact hB
          · exact (HH.out.own q (by simpa using hq)).1
        have hL2 : LctAt w2 pf g N cap τ ed := ⟨hF'.blk hL.hd (fun hm => by have := hHo _ hm; omega), hL.nodes.same (hF'.keep g hL.nodes.lt (fun hm => by have := hHo _ hm; omega)), hL.ne, hL.le, hL.cap⟩
        have d2 : w2.cell? ⟨pf, 1, none⟩ = some (.slice (some ⟨g, 0, none⟩) N cap) := hL2.hd.cell 1
        have k2 := hL2.nodes.c1 p hpN
        rw [hk1] at k2
        have hown2 : w2.ownsRow 0 3 1 (.slice (some ⟨ob, 0, none⟩) ps.length c9) ps.length (ps.reverse.map encI) := ownsRow_same hcut (fun q hq => hF'.keep q (hcut.lt q hq).2 (by
          have := HQ.out q hq
          intro hm
          rcases List.mem_cons.1 hm with e | e
          · exact this.2.1 e
          · exact this.2.2 (by simpa using e)))
        have HH' := Lib.hid hH'; clear hH' HP hL d1 hc1
        go_wp2
        go_roundg (2 * a.o.nodes.length + toGo (⟨true, false, p, plug rs .nil⟩ :: c') + 1)
        case measure => simp only [toGo, if_true]; omega
        case rel =>
          refine ⟨τ, ⟨true, false, p, plug rs .nil⟩ :: c', a.o, v', a.o.root, rfl, Lib.hid rfl, hL2, ?_, ?_, Lib.hid ⟨HVn.out, Nat.lt_succ_self _⟩, Lib.hid ?_, Lib.hid ?_⟩
          · simp only [opens, if_true]
            rw [Hh5.out]; exact hown2
          · exact hBx.trans ⟨hF'.os, hF'.tape, hF'.output, hF'.size, fun k hk hn => hF'.keep k (by omega) (fun hm => by have := hHo _ hm; omega)⟩
          · rw [Hlf.out, List.map_append]; exact HH'.out
          · intro q hq
            have h0 := HQ.out q hq
            refine ⟨h0.1, h0.2.1, fun e => ?_⟩
            rcases hv' q e with e2 | e2
            · exact h0.2.2 e2
            · have := (hcut.lt q hq).2; omega

end Go.Proofs.Ytoppjjgecgbbkaa

/- lct: Path. -/
namespace Go.Proofs.Ytoppjjgecgbbkaa
open Go.RowKit Classical
set_option maxRecDepth 10000
set_option maxHeartbeats 800000

noncomputable def pathL (n : Nat) (E : Nat → Nat → Prop) (a b : Int) : List Nat := if ConnI n E a b then thePath E a.toNat b.toNat else []
def encR (p : List Nat) : List Value := p.map encI

def zeroInts (m : Nat) : Array Value := madeCells (Value.int .i64 0).cells m
theorem run_make0 (n : Nat) (w : World) (hn : n ≤ 1048576) : (Instr.makeSlice 41 (.int .i64 0) (.int .i64 n)).run Try.prog w = .ok (.slice (some ⟨w.heap.size, 0, none⟩) 0 n) (w.alloc (.cells (zeroInts n) 3)) := by
  obtain ⟨i0, hi, hz0, hz1, hz2⟩ := info_parts Try.info3
  have h := run_make (P := Try.prog) w 41 3 i0 (.int .i64 0) Try.underlying41 hi hz0 .i64 .i64 0 n (by omega) (by omega) (by rw [hz2]; omega) (by omega)
  rw [hz1] at h
  simp only [Int.toNat_natCast, Nat.mul_one] at h
  exact h

theorem visit_v {w : World} {pf g N cap : Nat} {σ : Tbl} {ed : Int} (h : LctAt w pf g N cap σ ed) (hR : InR N σ) {t₀ : BT} {u n₀ Bl : Nat} {v₀ : Value} (hrep : Rep σ t₀ u) (hnd : t₀.nodes.Nodup) (hlt : ∀ x ∈ t₀.nodes, x < N)
    (hH : Holds w n₀ Bl v₀ []) (hp : pf < n₀) (hg : g < n₀) (hB : n₀ ≤ Bl) (hnw : n₀ ≤ w.heap.size) (j : Int) (hj : j = (t₀.root : Int)) :
    Calls Try.prog 39 #[.pointer (some ⟨pf, 0, none⟩), .int .i64 j, .func (.func 40) #[] #[.pointer (some ⟨Bl, 0, none⟩)]] w fun e w' => e = .returned (.tuple #[]) ∧
      ∃ τ t' v, LctAt w' pf g N cap τ ed ∧ Rep τ t' u ∧ t'.seq = t₀.seq ∧ t'.nodes.Perm t₀.nodes ∧ Rotated σ τ t₀.nodes ∧ Holds w' n₀ Bl v (t₀.seq.map encP) ∧ Bx n₀ g w w' := by
  subst hj; exact visit_w h hR hrep hnd hlt hH hp hg hB hnw

theorem pathf_w {w : World} {pf g n : Nat} {E : Nat → Nat → Prop} {key : Nat → Int} {ed : Int} (h : LG w pf g n E key ed) (a b : Int) :
    Calls Try.prog 22 #[.pointer (some ⟨pf, 0, none⟩), .int .i64 a, .int .i64 b] w fun e w' => ∃ v, e = .returned v ∧ w'.ownsRow 0 3 1 v (pathL n E a b).length (encR (pathL n E a b)) ∧ (∀ q, v.ownBlock = some q → w.heap.size ≤ q) ∧ LG w' pf g n E key ed ∧ Fr [g] w w' := by
  go_enter Try.func22, Try.ntmps22
  go_wp2_with fail
  refine (connected_w h a b).mono ?_
  rintro _ w2 ⟨r, rfl, hr, h2, hF2⟩
  have HR := Lib.hid hr; clear hr
  cases r with
  | false =>
    have H2 := Lib.hid h2; clear h2 h
    have hpl : pathL n E a b = [] := by unfold pathL; rw [if_neg (fun e => by have := HR.out.2 e; cases this)]
    have Hpl := Lib.hid hpl; clear hpl
    go_wp2
    go_ret
    refine ⟨_, rfl, ?_, fun q e => (by cases e), H2.out, hF2⟩
    rw [Hpl.out]; exact World.ownsRow_nil _ _ _ _
  | true =>
    have hC := HR.out.1 rfl
    have hpl : pathL n E a b = thePath E a.toNat b.toNat := by unfold pathL; rw [if_pos hC]
    obtain ⟨va, vb, hc⟩ := hC
    obtain ⟨v, rfl, hv⟩ := inV_nat va
    obtain ⟨u, rfl, hu⟩ := inV_nat vb
    clear va vb HR h
    simp only [Int.toNat_natCast] at hpl hc
    have hfrs := h2.frs
    obtain ⟨cap, σ, F, par, d, rt, hL, hF, hE, hk⟩ := h2
    have hrt := (conn_rt hF.rtd hE).1 hc
    have HF := Lib.hid hF; clear hF
    have HE := Lib.hid hE; clear hE
    have HK := Lib.hid hk; clear hk
    have Hfs := Lib.hid hfrs; clear hfrs
    have Hpl := Lib.hid hpl; clear hpl
    have hN := hL.le
    go_wp2_with fail
    refine (path_v hL HF.out v u hv hu).mono ?_
    rintro _ w3 ⟨rfl, τ, l, R, par', d', rt', hL3, hP, hF3⟩
    obtain ⟨p, hp1, hp2, hp3⟩ := hP.at HE.out hrt
    have hpl : (τ (u + 1)).size = (p.length : Int) ∧ p.length ≤ n ∧ 0 < p.length := by
      have h1 := (hP.lf.rep _ (List.mem_cons_self)).2.2.2.1
      have h2 : (BT.node false l (u + 1) .nil).nodes.length = p.length := by
        rw [← (BT.seq_perm _).length_eq]
        have := congrArg List.length hp2
        simpa [BT.seq] using this.symm
      have h3 := nodup_le hp1.nd hp3
      have h4 : 0 < p.length := List.length_pos_iff.2 hp1.ne
      refine ⟨?_, h3, h4⟩
      rw [h1, h2]; unfold wrap64; omega
    obtain ⟨q1, q2, q3⟩ := hpl
    have a5 := hL3.nodes.c5 (u + 1) (by omega)
    rw [q1] at a5
    have hps : thePath E v u = p := thePath_eq Hfs.out hp1
    rw [hps] at Hpl
    have hseq : (BT.node false l (u + 1) .nil).seq = p.map (· + 1) := by rw [hp2]; simp [BT.seq]
    have Hseq := Lib.hid hseq; clear hseq
    have HP := Lib.hid hP; clear hP
    clear hp1 hp2 hp3 q1 hps hc hrt
    have d1 := hL3.hd.cell 1
    simp only [List.getElem?_cons_zero, List.getElem?_cons_succ] at d1
    have hu2 : ((u + 1 : Nat) : Int) < ((n + 1 : Nat) : Int) := by omega
    have hmk := fun W => run_make0 p.length W (by omega)
    obtain ⟨hpf3, hg3⟩ := hL3.lts
    go_wp2_with fail
    obtain ⟨W5, hW5⟩ : ∃ W5, (w3.alloc (.cells (zeroInts p.length) 3)).alloc (.cells #[.slice (some ⟨w3.heap.size, 0, none⟩) 0 p.length] 41) = W5 := ⟨_, rfl⟩
    have hH : Holds W5 w3.heap.size (w3.heap.size + 1) (.slice (some ⟨w3.heap.size, 0, none⟩) 0 p.length) [] := by
      subst hW5
      refine ⟨?_, ?_, ?_⟩
      · have := Blk.new (w3.alloc (.cells (zeroInts p.length) 3)) [.slice (some ⟨w3.heap.size, 0, none⟩) 0 p.length] 41
        rw [World.size_alloc] at this
        exact this
      · refine ⟨rfl, .inr ⟨w3.heap.size, p.length, zeroInts p.length, rfl, Nat.zero_le _, ?_, Nat.zero_le _, by unfold maxLen; omega, by simp [zeroInts, size_madeCells], by simp⟩⟩
        exact (Below.heap_alloc _ _ _ (by simp)).trans (World.alloc_heap_new w3 _)
      · intro q hq
        simp only [Value.ownBlock, Option.some.injEq] at hq
        omega
    have hB5 : Below w3.heap.size w3 W5 := by
      subst hW5
      exact ((Below.refl _ w3).alloc (Nat.le_refl _) _).alloc (by simp) _
    have hL5 : LctAt W5 pf g (n + 1) cap τ ed := hL3.below hB5 hpf3 hg3
    have hV := visit_v hL5 HP.out.lf.inR (t₀ := .node false l (u + 1) .nil) (u := 0) (HP.out.lf.rep _ (List.mem_cons_self)) (by
      have := HP.out.lf.nd; rw [fnodes_cons, List.nodup_append] at this; exact this.1) (fun x hx => (HP.out.lf.lt (List.mem_cons_self) hx).2) hH hpf3 hg3 (by omega) hB5.size ((u : Int) + 1) (by simp [BT.root])
    have HV := Lib.hid hV; clear hV hH hL5
    rw [hW5]
    refine HV.out.mono ?_
    rintro _ w6 ⟨rfl, τ6, t6, v6, hL6, r1, r2, r3, r4, hH6, hB6⟩
    have hbc : w6.cell? ⟨w3.heap.size + 1, 0, none⟩ = some v6 := hH6.box.cell 0
    have hlf6 := HP.out.lf.splay r1 r2 r3 r4
    have HL := Lib.hid (show LG w6 pf g n E key ed from ⟨cap, τ6, _, par', d', rt', hL6, hlf6, fun x y => (HE.out x y).trans (HP.out.adj _ _).symm, fun x hx => by rw [(r4.lk _).2, HP.out.key]; exact HK.out x hx⟩)
    have hrow := hH6.row
    have hown := hH6.own
    rw [Hseq.out] at hrow
    have e1 : (List.map (· + 1) p).map encP = encR p := by
      unfold encR
      rw [List.map_map]
      refine List.map_congr_left (fun x _ => ?_)
      show encP (x + 1) = encI x
      unfold encP encI
      congr 1; omega
    rw [e1] at hrow
    have e2 : (encR p).length = p.length := by unfold encR; simp
    rw [e2] at hrow
    have HRow := Lib.hid hrow
    obtain ⟨a9, c9, rfl⟩ := ownsRow_slice hrow
    clear hrow hH6 hlf6 r1 r2 r3 r4 hL6 e1 e2 hW5
    go_wp2
    go_ret
    have hs3 := (hF2.then hF3).size
    refine ⟨_, rfl, ?_, fun q hq => Nat.le_trans hs3 (hown q hq).1, HL.out, ?_⟩
    · rw [Hpl.out]; exact HRow.out
    · have : Fr [g] w3 w6 := ((Bx.of_below hB5).trans hB6).fr
      exact (hF2.then hF3).then this

end Go.Proofs.Ytoppjjgecgbbkaa

/- lct: rows of vertices that were made; whether two are equal. -/
namespace Go.Proofs.Ytoppjjgecgbbkaa
open Go.RowKit Classical
set_option maxRecDepth 10000
set_option maxHeartbeats 800000

/-- A slice reads the numbers p. -/
def RowN (w : World) (v : Value) (p : List Nat) : Prop := w.ownsRow 0 3 1 v p.length (encR p)
theorem RowN.fr {w w' : World} {v : Value} {p : List Nat} {S : List Nat} (h : RowN w v p) (hf : Fr S w w') (hs : ∀ q, v.ownBlock = some q → q ∉ S) : RowN w' v p :=
  ownsRow_same h (fun q hq => hf.keep q (h.lt q hq).2 (hs q hq))
theorem RowN.at {w : World} {v : Value} {p : List Nat} (h : RowN w v p) {i : Nat} (hi : i < p.length) : ∃ b cap, v = .slice (some ⟨b, 0, none⟩) p.length cap ∧ b < w.heap.size ∧ w.cell? ⟨b, i, none⟩ = some (.int .i64 (p[i]'hi)) := by
  obtain ⟨b, cap, e, _, h2, h3, _⟩ := ownsRow_at h hi
  refine ⟨b, cap, e, h2, h3.trans ?_⟩
  simp [encR, encI, hi]
theorem RowN.slice {w : World} {v : Value} {p : List Nat} (h : RowN w v p) : ∃ a cap, v = .slice a p.length cap := ownsRow_slice h

noncomputable def sizeI (n : Nat) (E : Nat → Nat → Prop) (a : Int) : Int := if inV n a then (csize n E a.toNat : Int) else 0
theorem size_d {w : World} {pf g n : Nat} {E : Nat → Nat → Prop} {key : Nat → Int} {ed : Int} (h : LG w pf g n E key ed) (a : Int) :
    Calls Try.prog 18 #[.pointer (some ⟨pf, 0, none⟩), .int .i64 a] w fun e w' => e = .returned (.int .i64 (sizeI n E a)) ∧ LG w' pf g n E key ed ∧ Fr [g] w w' := size_w h a
theorem drew_ex (w : World) (k n : Nat) : ∃ m, (w.drewN k).drewN n = w.drewN m := ⟨k + n, by simp⟩

theorem same_w {w : World} {v u : Value} {p q : List Nat} (hv : RowN w v p) (hu : RowN w u q) (hp : p.length ≤ 65536) (_hq : q.length ≤ 65536) :
    Calls Try.prog 23 #[v, u] w fun e w' => e = .returned (.bool (decide (p = q))) ∧ ∃ k, w' = w.drewN k := by
  obtain ⟨a1, c1, rfl⟩ := hv.slice
  obtain ⟨a2, c2, rfl⟩ := hu.slice
  have HV := Lib.hid hv; clear hv
  have HU := Lib.hid hu; clear hu
  by_cases hl : p.length = q.length
  · have hb : ((p.length : Int) != (q.length : Int)) = false := by simp; omega
    go_enter Try.func23, Try.ntmps23
    go_wp2
    go_loopw [5] (fun x wr => ∃ i : Nat, i ≤ p.length ∧ x = .int .i64 i ∧ (∃ k, wr = w.drewN k) ∧ Hid (p.take i = q.take i)) (fun x _ => p.length - (intOf x).toNat)
    case atStart => exact ⟨0, Nat.zero_le _, rfl, ⟨0, rfl⟩, Lib.hid (by simp)⟩
    case round =>
      obtain ⟨i, hi, rfl, ⟨k, rfl⟩, HT⟩ := hrel
      by_cases hlt : i < p.length
      · obtain ⟨b1, c1', e1, _, r1⟩ := HV.out.at hlt
        obtain ⟨b2, c2', e2, _, r2⟩ := HU.out.at (show i < q.length by omega)
        simp only [Value.slice.injEq, true_and] at e1 e2
        obtain ⟨rfl, rfl⟩ := e1
        obtain ⟨rfl, rfl⟩ := e2
        have hi1 : (i : Int) < p.length := by omega
        have hi2 : (i : Int) < q.length := by omega
        have hi0 : (0 : Int) ≤ i := by omega
        have hgp : p[i]? = some (p[i]'hlt) := List.getElem?_eq_getElem hlt
        have hgq : q[i]? = some (q[i]'(by omega)) := List.getElem?_eq_getElem (by omega)
        have Hg := Lib.hid (And.intro hgp hgq); clear hgp hgq
        generalize p[i]'hlt = x at *
        generalize q[i]'(by omega) = y at *
        by_cases hxy : x = y
        · have hne : ((x : Int) != (y : Int)) = false := by simp; omega
          have Hxy := Lib.hid hxy; clear hxy
          go_wp2
          go_quiet (fail)
          go_wp2
          go_roundw
          case rel =>
            refine ⟨i + 1, by omega, by go_num, ⟨_, rfl⟩, Lib.hid ?_⟩
            rw [List.take_add_one, List.take_add_one, HT.out, Hg.out.1, Hg.out.2, Hxy.out]
          case measure => simp [intOf]; omega
        · have hne : ((x : Int) != (y : Int)) = true := by simp; omega
          have Hxy := Lib.hid hxy; clear hxy
          go_wp2
          go_quiet (fail)
          go_wp2
          go_ret
          refine ⟨?_, drew_ex _ _ _⟩
          have : decide (p = q) = false := decide_eq_false (fun e => by
            have h1 := Hg.out.1; have h2 := Hg.out.2
            rw [e, h2] at h1
            exact Hxy.out (Option.some.inj h1).symm)
          rw [this]; rfl
      · obtain rfl : i = p.length := by omega
        go_wp2
        go_ret
        refine ⟨?_, _, rfl⟩
        have : decide (p = q) = true := decide_eq_true (by
          have := HT.out
          rw [List.take_of_length_le (Nat.le_refl _), List.take_of_length_le (by omega)] at this
          exact this)
        rw [this]; rfl
  · have hb : ((p.length : Int) != (q.length : Int)) = true := by simp; omega
    have Hl := Lib.hid hl; clear hl
    go_enter Try.func23, Try.ntmps23
    go_wp2
    go_ret
    refine ⟨?_, 0, rfl⟩
    rw [decide_eq_false (fun e => Hl.out (by rw [e]))]; rfl

end Go.Proofs.Ytoppjjgecgbbkaa

/- How a slice of pairs of integers reads. -/
namespace Go.Proofs.Ytoppjjgecgbbkaa
open Go.ChangeShapes Go.WideShapes Go.ChangeAt Go.RowKit Go.Deep

/-- A slice of len pairs reads z. -/
def PairsF (w : World) (a : Option Addr) (len : Nat) (z : Nat → Int × Int) : Prop :=
  len ≤ 9223372036854775807 ∧ ∀ i, i < len → ∃ b off, a = some ⟨b, off, none⟩ ∧ b < w.heap.size ∧ w.cell? ⟨b, off + i * 2, none⟩ = some (.int .i64 (z i).1) ∧ w.cell? ⟨b, off + i * 2 + 1, none⟩ = some (.int .i64 (z i).2)

theorem PairsF.below {w w' : World} {a : Option Addr} {len : Nat} {z : Nat → Int × Int} (h : PairsF w a len z) (hb : Below w.heap.size w w') : PairsF w' a len z := by
  refine ⟨h.1, fun i hi => ?_⟩
  obtain ⟨b, off, rfl, hlt, h1, h2⟩ := h.2 i hi
  exact ⟨b, off, rfl, Nat.lt_of_lt_of_le hlt hb.size, (hb.cell (p := ⟨b, off + i * 2, none⟩) hlt).trans h1, (hb.cell (p := ⟨b, off + i * 2 + 1, none⟩) hlt).trans h2⟩

theorem cell_no_spot {W : World} {y : Addr} {v : Value} (h : W.cell? y = some v) : y.spot = none := by
  unfold World.cell? at h
  split at h
  · by_cases hs : y.spot.isSome = true
    · rw [if_pos hs] at h; cases h
    · cases hy : y.spot with
      | none => rfl
      | some s => rw [hy] at hs; exact absurd rfl hs
  · cases h

theorem open_pairs {H : Type} {enc : TypeId × Value → H} {W : World} {a : Option Addr} {len cap : Nat} {d : DataW H} {p : List MemPlace}
    (h : DataW.Trod enc Try.prog W 0 (fun _ => true) true 22 (.slice a len cap) d p) : ∃ z, PairsF W a len z := by
  obtain ⟨fuel, hf⟩ := h
  have c3 : Try.prog.cellsOf 3 = 1 := by kernel_rfl
  have c30 : Try.prog.cellsOf 30 = 2 := by kernel_rfl
  rcases open_slice Try.underlying22 hf with ⟨hcs, _⟩ | ⟨x, l, c, m, n, D, Pl, hcs, _, hl, hm, hmm, _, hel⟩
  · simp [Value.cells] at hcs
    obtain ⟨rfl, rfl, rfl⟩ := hcs
    exact ⟨fun _ => (0, 0), by omega, fun i hi => absurd hi (Nat.not_lt_zero _)⟩
  · simp [Value.cells] at hcs
    obtain ⟨rfl, rfl, rfl⟩ := hcs
    have hml : len ≤ m := by rw [hmm]; simpa using hl
    have key : ∀ i, i < len → ∃ u : Int × Int, W.cell? (x.add (i * 2)) = some (.int .i64 u.1) ∧ W.cell? ((x.add (i * 2)).add 1) = some (.int .i64 u.2) := by
      intro i hi
      obtain ⟨cs', hc, ht⟩ := hel i (by omega)
      rw [c30] at hc
      obtain ⟨xs, n', _, _, hlen, hxl, hall⟩ := DataW.trod_array Try.underlying30 ht
      obtain ⟨_, _, hat⟩ := World.cells?_some hc
      rw [c3] at hall
      have h0 := hall 0 (by decide)
      have h1 := hall 1 (by decide)
      rw [List.getElem?_eq_getElem (by omega)] at h0 h1
      obtain ⟨n0, e0, _, _⟩ := DataW.trod_int Try.underlying3 h0
      obtain ⟨n1, e1, _, _⟩ := DataW.trod_int Try.underlying3 h1
      have g0 := hat 0 (by decide)
      have g1 := hat 1 (by decide)
      have q0 : cs'[0]? = some (.int .i64 n0) := by
        have := congrArg (fun l => l[0]?) e0; simpa using this
      have q1 : cs'[1]? = some (.int .i64 n1) := by
        have := congrArg (fun l => l[0]?) e1; simpa using this
      have z0 : ∀ y : Addr, y.add 0 = y := fun y => by simp [Addr.add]
      rw [z0] at g0
      exact ⟨(n0, n1), g0.trans q0, g1.trans q1⟩
    have key2 : ∀ i, ∃ u : Int × Int, i < len → W.cell? (x.add (i * 2)) = some (.int .i64 u.1) ∧ W.cell? ((x.add (i * 2)).add 1) = some (.int .i64 u.2) := by
      intro i
      by_cases hi : i < len
      · obtain ⟨u, h⟩ := key i hi
        exact ⟨u, fun _ => h⟩
      · exact ⟨(0, 0), fun h => absurd h hi⟩
    obtain ⟨F, hF⟩ := Classical.axiomOfChoice key2
    refine ⟨F, by unfold maxLen at hm; omega, fun i hi => ?_⟩
    obtain ⟨h1, h2⟩ := hF i hi
    have hsp := cell_no_spot (hF 0 (by omega)).1
    have z0 : ∀ y : Addr, y.add (0 * 2) = y := fun y => by simp [Addr.add]
    rw [z0] at hsp
    obtain ⟨b, off, sp⟩ := x
    simp only at hsp
    subst hsp
    rw [Addr.add_lit] at h1
    rw [Addr.add_lit, Addr.add_lit] at h2
    exact ⟨b, off, rfl, cell_lt h1, h1, h2⟩

end Go.Proofs.Ytoppjjgecgbbkaa

namespace Go.Proofs.Ytoppjjgecgbbkaa
open Go.RowKit Classical
set_option maxRecDepth 10000
set_option maxHeartbeats 800000

def smallB (n : Int) (len : Nat) : Bool := decide (0 ≤ n) && (decide (n ≤ 120) && decide (len ≤ 120))
theorem small_w (w : World) (n : Int) (a : Option Addr) (len cap : Nat) (hl : len ≤ 9223372036854775807) :
    Calls Try.prog 12 #[.int .i64 n, .slice a len cap] w fun e w' => e = .returned (.bool (smallB n len)) ∧ w' = w := by
  by_cases h1 : 0 ≤ n
  · by_cases h2 : n ≤ 120
    · have d3 : decide ((len : Int) ≤ 120) = decide (len ≤ 120) := decide_eq_decide.2 (by omega)
      have e : smallB n len = decide (len ≤ 120) := by simp [smallB, h1, h2]
      rw [e, ← d3]; clear e d3
      go_enter Try.func12, Try.ntmps12
      go_wp2
      go_ret
      exact ⟨rfl, rfl⟩
    · have e : smallB n len = false := by simp [smallB, h2]
      rw [e]; clear e
      have d2 : decide (n ≤ 120) = false := decide_eq_false h2
      go_enter Try.func12, Try.ntmps12
      go_wp2
      go_ret
      exact ⟨rfl, rfl⟩
  · have e : smallB n len = false := by simp [smallB, h1]
    rw [e]; clear e
    have d1 : decide (0 ≤ n) = false := decide_eq_false h1
    go_enter Try.func12, Try.ntmps12
    go_wp2
    go_ret
    exact ⟨rfl, rfl⟩

/-- A forest that was made since the call began. -/
structure Own1 (w wr : World) (pf g n : Nat) (E : Nat → Nat → Prop) (key : Nat → Int) : Prop where
  lm : LM wr pf g n E key
  fr : Fr [] w wr
  pf : w.heap.size ≤ pf
  g : w.heap.size ≤ g
theorem Own1.next {w wr w' : World} {pf g n : Nat} {E E' : Nat → Nat → Prop} {key key' : Nat → Int} (h : Own1 w wr pf g n E key) (hl : LM w' pf g n E' key') (hf : Fr [pf, g] wr w') : Own1 w w' pf g n E' key' :=
  ⟨hl, h.fr.trans hf (fun b hb => .inr (by have h1 := h.pf; have h2 := h.g; simp at hb; omega)), h.pf, h.g⟩
theorem Own1.ask {w wr w' : World} {pf g n : Nat} {E : Nat → Nat → Prop} {key : Nat → Int} (h : Own1 w wr pf g n E key) (hl : LG w' pf g n E key ((n : Int) - nc n E)) (hf : Fr [g] wr w') : Own1 w w' pf g n E key :=
  h.next hl (hf.mono (fun b hb => .inl (by simp at hb; simp [hb])))
theorem Own1.drew {w wr : World} {pf g n : Nat} {E : Nat → Nat → Prop} {key : Nat → Int} (h : Own1 w wr pf g n E key) (k : Nat) : Own1 w (wr.drewN k) pf g n E key :=
  h.next (LG.fr h.lm ((Fr.refl [] wr).drewN k) (by simp) (by simp)) ((Fr.refl _ _).drewN k)
theorem Own1.below {w wr : World} {pf g n : Nat} {E : Nat → Nat → Prop} {key : Nat → Int} (h : Own1 w wr pf g n E key) : Below w.heap.size w wr := h.fr.below (by simp)

theorem link_facts {w w' : World} {pf g n : Nat} {E : Nat → Nat → Prop} {key : Nat → Int} (h : LM w pf g n E key) {a b : Int} (h' : LM w' pf g n (linkE n E a b) key) :
    (linkCode n E a b = 0 ∧ connB n E a b = false ∧ nc n (linkE n E a b) + 1 = nc n E) ∨ (linkCode n E a b ≠ 0 ∧ linkE n E a b = E ∧ (linkCode n E a b = 6 → connB n E a b = true)) := by
  by_cases hc : linkCode n E a b = 0
  · left
    have hE : linkE n E a b = addE E a.toNat b.toNat := by unfold linkE; rw [if_pos hc]
    have hv : inV n a = true ∧ inV n b = true := by
      apply Classical.byContradiction; intro e; unfold linkCode at hc; rw [if_neg e] at hc; cases hc
    have hab : a ≠ b := by
      intro e; unfold linkCode at hc; rw [if_pos hv, if_pos e] at hc; cases hc
    have hn : ¬ Conn E a.toNat b.toNat := by
      intro e; unfold linkCode at hc; rw [if_pos hv, if_neg hab, if_pos e] at hc; cases hc
    obtain ⟨x, rfl, hx⟩ := inV_nat hv.1
    obtain ⟨y, rfl, hy⟩ := inV_nat hv.2
    refine ⟨hc, ?_, ?_⟩
    · cases e : connB n E x y with
      | false => rfl
      | true => exact absurd ((connB_nat hx hy).1 e) hn
    · rw [hE]; rw [hE] at h'
      exact nc_add (LG.frs h) (LG.frs h') hn hx hy
  · right
    have hE : linkE n E a b = E := by unfold linkE; rw [if_neg hc]
    refine ⟨hc, hE, fun h6 => ?_⟩
    rw [connB_iff]
    have hv : inV n a = true ∧ inV n b = true := by
      apply Classical.byContradiction; intro e; unfold linkCode at h6; rw [if_neg e] at h6; cases h6
    refine ⟨hv.1, hv.2, ?_⟩
    apply Classical.byContradiction; intro e
    unfold linkCode at h6
    rw [if_pos hv] at h6
    by_cases hab : a = b
    · rw [if_pos hab] at h6; cases h6
    · rw [if_neg hab, if_neg e] at h6; cases h6

theorem link_codes (n : Nat) (E : Nat → Nat → Prop) (a b : Int) : linkCode n E a b = 0 ∨ linkCode n E a b = 3 ∨ linkCode n E a b = 6 ∨ linkCode n E a b = 9 := by
  unfold linkCode
  split
  · split
    · exact .inr (.inr (.inr rfl))
    · split
      · exact .inr (.inr (.inl rfl))
      · exact .inl rfl
  · exact .inr (.inl rfl)

theorem csize_succ (m : Nat) (E : Nat → Nat → Prop) (v : Nat) : csize (m + 1) E v = csize m E v + if Conn E v m then 1 else 0 := by
  unfold csize
  rw [List.range_succ, List.filter_append, List.length_append]
  by_cases h : Conn E v m <;> simp [h]
theorem nc_succ (m : Nat) (E : Nat → Nat → Prop) : nc (m + 1) E = nc m E + if IsFirst E m then 1 else 0 := by
  unfold nc
  rw [List.range_succ, List.filter_append, List.length_append]
  by_cases h : IsFirst E m <;> simp [h]

theorem walk_lctCounts (W : World) (n : Int) (wn : (Lit.int .i64 n).wf = true) (a : Option Addr) (len cap : Nat) (z : Nat → Int × Int) (hz : PairsF W a len z) :
    Calls Try.prog 3 #[.int .i64 n, .slice a len cap] W fun e w' => e = .returned (.bool true) ∧ Below W.heap.size W w' := by
  have hS := small_w W n a len cap hz.1
  have HZ := Lib.hid hz; clear hz
  cases hsm : smallB n len with
  | false =>
    rw [hsm] at hS
    have HS := Lib.hid hS; clear hS hsm
    go_enter Try.func3, Try.ntmps3
    go_wp2_with fail
    refine HS.out.mono ?_
    rintro _ w ⟨rfl, rfl⟩
    go_wp2_with fail
    refine (works_w w).mono ?_
    rintro _ w2 ⟨rfl, hB⟩
    go_wp2
    go_ret
    exact ⟨rfl, hB⟩
  | true =>
    rw [hsm] at hS
    have HS := Lib.hid hS; clear hS
    have hn : 0 ≤ n ∧ n ≤ 120 ∧ len ≤ 120 := by simp [smallB] at hsm; omega
    clear hsm
    obtain ⟨n, rfl⟩ : ∃ m : Nat, n = m := ⟨n.toNat, by omega⟩
    obtain ⟨_, hn1, hn2⟩ := hn
    have hn3 : n ≤ 120 := by omega
    go_enter Try.func3, Try.ntmps3
    go_wp2_with fail
    refine HS.out.mono ?_
    rintro _ w ⟨rfl, rfl⟩
    go_wp2_with fail
    refine (new_w n w (by omega)).mono ?_
    rintro _ w1 ⟨pf, g, rfl, h1, f1, hp, hg⟩
    have HO := Lib.hid (Own1.mk h1 f1 hp hg)
    have hnn := nc_none n
    clear h1 f1
    go_wp2
    go_loopw [7, 8] (fun x y wr => ∃ (k c : Nat) (E : Nat → Nat → Prop), k ≤ len ∧ y = .int .i64 k ∧ x = .int .i64 c ∧ Hid (c + nc n E = n) ∧ c ≤ 120 ∧ Hid (Own1 w wr pf g n E (fun _ => 0))) (fun _ y _ => len - (intOf y).toNat)
    case atStart => exact ⟨0, 0, fun _ _ => False, Nat.zero_le _, rfl, rfl, Lib.hid (by rw [hnn]; omega), by omega, HO⟩
    case round =>
      clear HO hnn HS
      obtain ⟨k, c, E, hk, rfl, rfl, HCn, hc120, HO⟩ := hrel
      by_cases hlt : k < len
      · obtain ⟨b, off, rfl, hb, q0, q1⟩ := (HZ.out.below HO.out.below).2 k hlt
        have hkl : (k : Int) < len := by omega
        generalize hz0 : (z k).1 = z0 at *
        generalize hz1 : (z k).2 = z1 at *
        have HZ01 := Lib.hid (And.intro hz0 hz1); clear hz0 hz1
        go_wp2
        refine region_one 11 (fun w' => Own1 w w' pf g n E (fun _ => 0)) (by kernel_rfl) (by kernel_rfl) (by kernel_rfl) ?_
        iterate 11 (refine gWalk_pre (by decide) (fun K hK => ?_); go_simp; refine hK _ ?_; clear hK K)
        refine gWalk_write rfl (.bool (connB n E z0 z1)) (fun w' hw' => ?_) ?_
        · obtain ⟨nq, rfl⟩ := hw'
          go_simp
          refine (connected_d (HO.out.drew nq).lm z0 z1).mono ?_
          rintro e w3 ⟨rfl, h3, f3⟩
          exact ⟨rfl, (HO.out.drew nq).ask h3 f3⟩
        refine gWalk_post (by decide) (fun K hK => ?_); go_simp; refine hK _ ?_; clear hK K
        refine gWalk_nil ?_
        rintro w2 hO2
        clear q0 q1 HO
        have HO := Lib.hid hO2; clear hO2
        obtain ⟨b', off', e, hb', q0, q1⟩ := (HZ.out.below HO.out.below).2 k hlt
        simp only [Option.some.injEq, Addr.mk.injEq, and_true] at e
        obtain ⟨rfl, rfl⟩ := e
        rw [HZ01.out.1] at q0
        rw [HZ01.out.2] at q1
        go_wp2
        refine region_one 11 (fun w' => Own1 w w' pf g n (linkE n E z0 z1) (fun _ => 0)) (by kernel_rfl) (by kernel_rfl) (by kernel_rfl) ?_
        iterate 11 (refine gWalk_pre (by decide) (fun K hK => ?_); go_simp; refine hK _ ?_; clear hK K)
        refine gWalk_write rfl (.int .i64 (linkCode n E z0 z1)) (fun w' hw' => ?_) ?_
        · obtain ⟨nq, rfl⟩ := hw'
          go_simp
          refine (link_w (HO.out.drew nq).lm z0 z1).mono ?_
          rintro e w3 ⟨rfl, h3, f3⟩
          exact ⟨rfl, (HO.out.drew nq).next h3 f3⟩
        refine gWalk_post (by decide) (fun K hK => ?_); go_simp; refine hK _ ?_; clear hK K
        refine gWalk_nil ?_
        rintro w3 hO3
        have HO3 := Lib.hid hO3; clear hO3
        have hfx := link_facts HO.out.lm HO3.out.lm
        have hcd := link_codes n E z0 z1
        clear q0 q1 HO
        have hnc1 := nc_le n E
        have hnc2 := nc_le n (linkE n E z0 z1)
        have hT := Lib.hid (trees_w HO3.out.lm)
        rcases hfx with ⟨f1, f2, f3⟩ | ⟨f1, f2, f3⟩
        · rw [f1, f2]
          have hbn : ((nc n (linkE n E z0 z1) : Int) != (n : Int) - ((c : Int) + 1)) = false := by
            have := HCn.out
            simp; omega
          have Hf3 := Lib.hid f3; clear f3 hcd f1 f2
          have hc2 : c + 1 ≤ 120 := by have := HCn.out; have := Hf3.out; omega
          go_wp2_with fail
          refine hT.out.mono ?_
          rintro _ _ ⟨rfl, kq, rfl⟩
          go_wp2
          go_roundw
          case rel => exact ⟨k + 1, c + 1, _, by omega, by go_num, by go_num, Lib.hid (by have := HCn.out; have := Hf3.out; omega), hc2, Lib.hid (HO3.out.drew kq)⟩
          case measure => simp [intOf]; omega
        · have hbn : ((nc n (linkE n E z0 z1) : Int) != (n : Int) - (c : Int)) = false := by
            have := HCn.out
            rw [f2]; simp; omega
          have Hf2 := Lib.hid f2; clear f2
          rcases hcd with e | e | e | e
          · exact absurd e f1
          · rw [e]
            clear f1 f3 e
            cases connB n E z0 z1 <;>
            · go_wp2_with fail
              refine hT.out.mono ?_
              rintro _ _ ⟨rfl, kq, rfl⟩
              go_wp2
              go_roundw
              case rel => exact ⟨k + 1, c, _, by omega, by go_num, rfl, Lib.hid (by rw [Hf2.out]; exact HCn.out), hc120, Lib.hid (HO3.out.drew kq)⟩
              case measure => simp [intOf]; omega
          · rw [f3 e, e]
            clear f1 f3 e
            go_wp2_with fail
            refine hT.out.mono ?_
            rintro _ _ ⟨rfl, kq, rfl⟩
            go_wp2
            go_roundw
            case rel => exact ⟨k + 1, c, _, by omega, by go_num, rfl, Lib.hid (by rw [Hf2.out]; exact HCn.out), hc120, Lib.hid (HO3.out.drew kq)⟩
            case measure => simp [intOf]; omega
          · rw [e]
            clear f1 f3 e
            cases connB n E z0 z1 <;>
            · go_wp2_with fail
              refine hT.out.mono ?_
              rintro _ _ ⟨rfl, kq, rfl⟩
              go_wp2
              go_roundw
              case rel => exact ⟨k + 1, c, _, by omega, by go_num, rfl, Lib.hid (by rw [Hf2.out]; exact HCn.out), hc120, Lib.hid (HO3.out.drew kq)⟩
              case measure => simp [intOf]; omega
      · clear HCn hc120
        have Hfs := Lib.hid (LG.frs HO.out.lm)
        go_wp2
        go_loopw [11, 12] (fun x y wr => ∃ v : Nat, v ≤ n ∧ y = .int .i64 v ∧ x = .int .i64 (nc v E : Nat) ∧ Hid (Own1 w wr pf g n E (fun _ => 0))) (fun _ y _ => n - (intOf y).toNat)
        case atStart => exact ⟨0, Nat.zero_le _, rfl, rfl, HO⟩
        case round =>
          clear HO
          obtain ⟨v, hv, rfl, rfl, HO⟩ := hrel
          have hncv := nc_le v E
          by_cases hvn : v < n
          · go_wp2
            go_loopw [13, 14, 15] (fun x s y wr => ∃ u : Nat, u ≤ n ∧ y = .int .i64 u ∧ s = .int .i64 (csize u E v : Nat) ∧ x = .bool (decide (∀ q, q < u → Conn E v q → v ≤ q)) ∧ Hid (Own1 w wr pf g n E (fun _ => 0))) (fun _ _ y _ => n - (intOf y).toNat)
            case atStart => exact ⟨0, Nat.zero_le _, rfl, rfl, by simp, HO⟩
            case round =>
              clear HO
              obtain ⟨u, hu, rfl, rfl, rfl, HO⟩ := hrel
              have hcs := csize_le u E v
              by_cases hun : u < n
              · have hC := connected_d HO.out.lm (v : Int) (u : Int)
                by_cases hc : Conn E v u
                · rw [(connB_nat hvn hun).2 hc] at hC
                  have HC := Lib.hid hC; clear hC
                  have e1 : csize (u + 1) E v = csize u E v + 1 := by rw [csize_succ, if_pos hc]
                  have e2 : decide (∀ q, q < u + 1 → Conn E v q → v ≤ q) = (decide (∀ q, q < u → Conn E v q → v ≤ q) && decide ((v : Int) ≤ u)) := by
                    rw [Bool.eq_iff_iff]
                    simp only [decide_eq_true_eq, Bool.and_eq_true]
                    constructor
                    · intro h; exact ⟨fun q hq => h q (by omega), by have := h u (by omega) hc; omega⟩
                    · rintro ⟨h1, h2⟩ q hq hcq
                      by_cases e : q = u
                      · omega
                      · exact h1 q (by omega) hcq
                  have He := Lib.hid (And.intro e1 e2); clear e1 e2
                  have Hc := Lib.hid hc; clear hc
                  generalize hdd : decide (∀ q, q < u → Conn E v q → v ≤ q) = dd at *
                  clear hdd
                  cases dd with
                  | true =>
                    go_wp2_with fail
                    refine HC.out.mono ?_
                    rintro _ w4 ⟨rfl, h4, f4⟩
                    go_wp2
                    go_roundw
                    case rel => exact ⟨u + 1, by omega, by go_num, by rw [He.out.1]; go_num, by rw [He.out.2]; simp, Lib.hid (HO.out.ask h4 f4)⟩
                    case measure => simp [intOf]; omega
                  | false =>
                    go_wp2_with fail
                    refine HC.out.mono ?_
                    rintro _ w4 ⟨rfl, h4, f4⟩
                    go_wp2
                    go_roundw
                    case rel => exact ⟨u + 1, by omega, by go_num, by rw [He.out.1]; go_num, by rw [He.out.2]; simp, Lib.hid (HO.out.ask h4 f4)⟩
                    case measure => simp [intOf]; omega
                · have hcf : connB n E v u = false := by
                    cases e : connB n E v u with
                    | false => rfl
                    | true => exact absurd ((connB_nat hvn hun).1 e) hc
                  rw [hcf] at hC
                  have HC := Lib.hid hC; clear hC hcf
                  have e1 : csize (u + 1) E v = csize u E v := by rw [csize_succ, if_neg hc]; rfl
                  have e2 : decide (∀ q, q < u + 1 → Conn E v q → v ≤ q) = decide (∀ q, q < u → Conn E v q → v ≤ q) := by
                    rw [decide_eq_decide]
                    constructor
                    · intro h q hq; exact h q (by omega)
                    · intro h q hq hcq
                      by_cases e : q = u
                      · rw [e] at hcq; exact absurd hcq hc
                      · exact h q (by omega) hcq
                  have He := Lib.hid (And.intro e1 e2); clear e1 e2 hc
                  go_wp2_with fail
                  refine HC.out.mono ?_
                  rintro _ w4 ⟨rfl, h4, f4⟩
                  go_wp2
                  go_roundw
                  case rel => exact ⟨u + 1, by omega, by go_num, by rw [He.out.1], by rw [He.out.2], Lib.hid (HO.out.ask h4 f4)⟩
                  case measure => simp [intOf]; omega
              · obtain rfl : u = n := by omega
                have hSz := size_w HO.out.lm (v : Int)
                rw [if_pos (show inV u (v : Int) = true by simp [inV]; omega), Int.toNat_natCast] at hSz
                have HSz := Lib.hid hSz; clear hSz
                have hd : decide (∀ q, q < u → Conn E v q → v ≤ q) = decide (IsFirst E v) := by
                  rw [decide_eq_decide]
                  constructor
                  · intro h q hq hc; have := h q (by omega) hc; omega
                  · intro h q hq hc
                    apply Classical.byContradiction; intro e
                    exact h q (by omega) hc
                rw [hd]
                clear hd
                have Hnc := Lib.hid (nc_succ v E)
                by_cases hf : IsFirst E v
                · have df : decide (IsFirst E v) = true := decide_eq_true hf
                  rw [df]
                  have Hnc2 := Lib.hid (show nc (v + 1) E = nc v E + 1 by rw [Hnc.out, if_pos hf])
                  clear df hf Hnc
                  go_wp2_with fail
                  refine HSz.out.mono ?_
                  rintro _ w4 ⟨rfl, h4, f4⟩
                  go_wp2
                  go_roundw
                  case rel => exact ⟨v + 1, by omega, by go_num, by rw [Hnc2.out]; go_num, Lib.hid (HO.out.ask h4 f4)⟩
                  case measure => simp [intOf]; omega
                · have df : decide (IsFirst E v) = false := decide_eq_false hf
                  rw [df]
                  have Hnc2 := Lib.hid (show nc (v + 1) E = nc v E by rw [Hnc.out, if_neg hf]; rfl)
                  clear df hf Hnc
                  go_wp2_with fail
                  refine HSz.out.mono ?_
                  rintro _ w4 ⟨rfl, h4, f4⟩
                  go_wp2
                  go_roundw
                  case rel => exact ⟨v + 1, by omega, by go_num, by rw [Hnc2.out], Lib.hid (HO.out.ask h4 f4)⟩
                  case measure => simp [intOf]; omega
          · obtain rfl : v = n := by omega
            go_wp2_with fail
            refine (trees_w HO.out.lm).mono ?_
            rintro _ _ ⟨rfl, kq, rfl⟩
            go_wp2_with fail
            refine (works_w _).mono ?_
            rintro _ w5 ⟨rfl, hB⟩
            go_wp2
            go_ret
            exact ⟨rfl, (HO.out.drew kq).below.trans (hB.mono (HO.out.drew kq).fr.size)⟩

end Go.Proofs.Ytoppjjgecgbbkaa
