/- lct: visit, with the function that Path hands to it, and Path. -/
import Derived.Deep.LoopGhost
import Derived.Test.YtoppjjgecgbbkaaLctDet
namespace Go.Proofs.Ytoppjjgecgbbkaa
open Go.RowKit
set_option maxRecDepth 10000
set_option maxHeartbeats 800000

/-- What lies to the left of the hole, and to the right of it (no pending flips). -/
def lefts : List Fm → List Nat
  | [] => []
  | a :: c => lefts c ++ (if a.s then a.o.seq ++ [a.p] else [])
def rights : List Fm → List Nat
  | [] => []
  | a :: c => (if a.s then [] else a.p :: a.o.seq) ++ rights c
theorem plug_lr : ∀ {c : List Fm} {t : BT}, (∀ a ∈ c, a.f = false) → (plug c t).seq = lefts c ++ t.seq ++ rights c
  | [], t, _ => by simp [plug, lefts, rights]
  | a :: c, t, h => by
    simp only [plug]
    rw [plug_lr (fun b hb => h b (by simp [hb]))]
    have hf := h a (by simp)
    obtain ⟨s, f, p, o⟩ := a
    dsimp only at hf; subst hf
    cases s <;> simp [Fm.fill, BT.seq, lefts, rights]
/-- The places of the frames whose hole is on the left: they are still to be visited. -/
def opens : List Fm → List Nat
  | [] => []
  | a :: c => if a.s then opens c else a.p :: opens c
/-- How many rounds are still to come. -/
def toGo : List Fm → Nat
  | [] => 0
  | a :: c => (if a.s then 0 else 1 + 2 * a.o.nodes.length) + toGo c

/-- The nearest frame whose hole is on the left. -/
theorem opens_split : ∀ {c : List Fm} {p : Nat} {ps : List Nat}, opens c = p :: ps → ∃ rs a c', c = rs ++ a :: c' ∧ (∀ b ∈ rs, b.s = true) ∧ a.s = false ∧ a.p = p ∧ opens c' = ps
  | [], p, ps, h => by cases h
  | a :: c, p, ps, h => by
    simp only [opens] at h
    cases hs : a.s with
    | true =>
      rw [hs, if_pos rfl] at h
      obtain ⟨rs, b, c', rfl, h2, h3, h4, h5⟩ := opens_split h
      exact ⟨a :: rs, b, c', rfl, fun x hx => by rcases List.mem_cons.1 hx with rfl | hx; exact hs; exact h2 x hx, h3, h4, h5⟩
    | false =>
      rw [hs, if_neg (by simp)] at h
      simp only [List.cons.injEq] at h
      exact ⟨[], a, c, rfl, fun x hx => (by cases hx), hs, h.1, h.2⟩
theorem opens_app {rs : List Fm} (h : ∀ b ∈ rs, b.s = true) (c : List Fm) : opens (rs ++ c) = opens c := by
  induction rs with
  | nil => rfl
  | cons a rs ih => simp only [List.cons_append, opens]; rw [h a (by simp), if_pos rfl, ih (fun b hb => h b (by simp [hb]))]
theorem toGo_app {rs : List Fm} (h : ∀ b ∈ rs, b.s = true) (c : List Fm) : toGo (rs ++ c) = toGo c := by
  induction rs with
  | nil => rfl
  | cons a rs ih => simp only [List.cons_append, toGo]; rw [h a (by simp), if_pos rfl, ih (fun b hb => h b (by simp [hb]))]; omega
theorem plug_app : ∀ (rs c : List Fm) (t : BT), plug (rs ++ c) t = plug c (plug rs t)
  | [], _, _ => rfl
  | a :: rs, c, t => by simp only [List.cons_append, plug]; exact plug_app rs c (a.fill t)
theorem lefts_app : ∀ (rs c : List Fm), lefts (rs ++ c) = lefts c ++ lefts rs
  | [], c => by simp [lefts]
  | a :: rs, c => by simp only [List.cons_append, lefts]; rw [lefts_app rs c, List.append_assoc]
theorem rights_right {rs : List Fm} (h : ∀ b ∈ rs, b.s = true) : rights rs = [] := by
  induction rs with
  | nil => rfl
  | cons a rs ih => simp only [rights]; rw [h a (by simp), if_pos rfl, ih (fun b hb => h b (by simp [hb]))]; rfl

/-- Between two rounds of visit: t is still to come, then what the frames hold. -/
structure Vis (N : Nat) (σ : Tbl) (u : Nat) (t₀ : BT) (τ : Tbl) (c : List Fm) (t : BT) : Prop where
  rep : Rep τ (plug c t) u
  ff : ∀ a ∈ c, a.f = false
  seq : (plug c t).seq = t₀.seq
  perm : (plug c t).nodes.Perm t₀.nodes
  rot : Rotated σ τ t₀.nodes
  inR : InR N τ

section
variable {N : Nat} {σ τ : Tbl} {u : Nat} {t₀ : BT} {c : List Fm} {f : Bool} {l r : BT} {v : Nat}
theorem Vis.down (h : Vis N σ u t₀ τ c (.node f l v r)) (hnd : t₀.nodes.Nodup) (hv : v < N) : ∃ l' r', (push τ v v).k0 = l'.root ∧ Vis N σ u t₀ (push τ v) (⟨false, false, v, r'⟩ :: c) l' ∧ l'.nodes.length + r'.nodes.length = l.nodes.length + r.nodes.length := by
  obtain ⟨h1, h2⟩ := push_rep h.rep (h.perm.nodup_iff.2 hnd)
  obtain ⟨l', r', e, hlen⟩ : ∃ l' r', (BT.node f l v r).pushed = .node false l' v r' ∧ l'.nodes.length + r'.nodes.length = l.nodes.length + r.nodes.length := by
    cases f with
    | false => exact ⟨l, r, rfl, rfl⟩
    | true => exact ⟨r.flip, l.flip, rfl, by rw [BT.nodes_flip, BT.nodes_flip]; omega⟩
  have hperm : (plug c (BT.node f l v r).pushed).nodes.Perm (plug c (.node f l v r)).nodes := (plug_nodes c _).trans (((pushed_perm (.node f l v r)).append_right _).trans (plug_nodes c _).symm)
  have hseq : (plug c (BT.node f l v r).pushed).seq = (plug c (.node f l v r)).seq := plug_seq c (pushed_seq _)
  rw [e] at h1 hperm hseq
  refine ⟨l', r', ?_, ⟨h1, fun a ha => ?_, hseq.trans h.seq, hperm.trans h.perm, h.rot.trans (h2.perm (fun _ => h.perm.mem_iff)), h.inR.push v hv⟩, hlen⟩
  · exact (rep_plug.1 h1).1.1.2.2.2.1
  · rcases List.mem_cons.1 ha with rfl | ha
    · rfl
    · exact h.ff a ha
theorem Vis.right {rs c' : List Fm} {a : Fm} (h : Vis N σ u t₀ τ (rs ++ a :: c') .nil) (hr : ∀ b ∈ rs, b.s = true) (ha : a.s = false) : (τ a.p).k1 = a.o.root ∧ Vis N σ u t₀ τ (⟨true, false, a.p, plug rs .nil⟩ :: c') a.o ∧ lefts (⟨true, false, a.p, plug rs .nil⟩ :: c') = lefts (rs ++ a :: c') ++ [a.p] := by
  have haf := h.ff a (by simp)
  have hrf : ∀ b ∈ rs, b.f = false := fun b hb => h.ff b (by simp [hb])
  obtain ⟨s, f, p, o⟩ := a
  dsimp only at haf ha ⊢
  subst haf; subst ha
  have e : plug (rs ++ (⟨false, false, p, o⟩ : Fm) :: c') .nil = plug (⟨true, false, p, plug rs .nil⟩ :: c') o := by
    rw [plug_app]; simp [plug, Fm.fill]
  have h1 := h.rep
  rw [e] at h1
  refine ⟨?_, ⟨h1, fun b hb => ?_, by rw [← e]; exact h.seq, by rw [← e]; exact h.perm, h.rot, h.inR⟩, ?_⟩
  · have := (rep_plug.1 h1).2.1.2.2.2.1
    simpa [kid, sd] using this
  · rcases List.mem_cons.1 hb with rfl | hb
    · rfl
    · exact h.ff b (by simp [hb])
  · rw [lefts_app]
    simp only [lefts, if_true]
    rw [plug_lr hrf, rights_right hr]
    simp [BT.seq]
end

theorem opens_nil : ∀ {c : List Fm}, opens c = [] → rights c = []
  | [], _ => rfl
  | a :: c, h => by
    simp only [opens] at h
    cases hs : a.s with
    | true => rw [hs, if_pos rfl] at h; simp only [rights]; rw [hs, if_pos rfl, opens_nil h]; rfl
    | false => rw [hs, if_neg (by simp)] at h; cases h
theorem Vis.fin {N : Nat} {σ τ : Tbl} {u : Nat} {t₀ : BT} {c : List Fm} (h : Vis N σ u t₀ τ c .nil) (ho : opens c = []) : lefts c = t₀.seq := by
  rw [← h.seq, plug_lr h.ff, opens_nil ho]; simp [BT.seq]

theorem ownsRow_cut {w : World} {e : TypeId} {g n cap : Nat} {xs : List Value} (h : w.ownsRow 0 e 1 (.slice (some ⟨g, 0, none⟩) (n + 1) cap) (n + 1) xs) : w.ownsRow 0 e 1 (.slice (some ⟨g, 0, none⟩) n cap) n (xs.take n) := by
  obtain ⟨h1, h2⟩ := h
  rcases h2 with ⟨h2, _⟩ | ⟨g', cap', cur, e1, _, hh, hn, hm, hsz, hxs⟩
  · cases h2
  · simp only [Value.slice.injEq, Option.some.injEq, Addr.mk.injEq, and_true, true_and] at e1
    obtain ⟨rfl, rfl⟩ := e1
    refine ⟨by rw [List.length_take]; omega, .inr ⟨g, cap, cur, rfl, Nat.zero_le _, hh, by omega, hm, hsz, ?_⟩⟩
    rw [← hxs, List.take_take]; congr 1; omega

theorem opens_len : ∀ c : List Fm, (opens c).length ≤ (cnodes c).length
  | [] => Nat.le_refl _
  | a :: c => by
    have := opens_len c
    simp only [opens, cnodes]
    split
    · simp; omega
    · simp; omega

def encP (x : Nat) : Value := .int .i64 ((x : Int) - 1)

/-- A variable that holds a row of its own. -/
structure Holds (w : World) (n₀ Bl : Nat) (v : Value) (xs : List Value) : Prop where
  box : Blk w Bl 41 [v]
  row : w.ownsRow 0 3 1 v xs.length xs
  own : ∀ q, v.ownBlock = some q → n₀ ≤ q ∧ q ≠ Bl
theorem Holds.fr {w w' : World} {n₀ Bl : Nat} {v : Value} {xs : List Value} {S : List Nat} (h : Holds w n₀ Bl v xs) (hf : Fr S w w') (h1 : Bl ∉ S) (h2 : ∀ q, v.ownBlock = some q → q ∉ S) : Holds w' n₀ Bl v xs :=
  ⟨hf.blk h.box h1, ownsRow_same h.row (fun q hq => hf.keep q (h.row.lt q hq).2 (h2 q hq)), h.own⟩

theorem path1_w {w : World} {n₀ Bl : Nat} {v : Value} {xs : List Value} (h : Holds w n₀ Bl v xs) (hB : n₀ ≤ Bl) (i : Nat) (hi : i ≤ 65537) (hl : xs.length ≤ 65537) :
    Calls Try.prog 40 #[.int .i64 i, .pointer (some ⟨Bl, 0, none⟩)] w fun e w' => e = .returned (.tuple #[]) ∧ ∃ v', Holds w' n₀ Bl v' (xs ++ [encP i]) ∧ Fr (Bl :: v.ownBlock.toList) w w' ∧ ∀ q, v'.ownBlock = some q → v.ownBlock = some q ∨ w.heap.size ≤ q := by
  have c0 : w.cell? ⟨Bl, 0, none⟩ = some v := h.box.cell 0
  obtain ⟨a9, c9, rfl⟩ := ownsRow_slice h.row
  have hlt := h.box.lt
  have hrow := h.row
  have HH := Lib.hid h; clear h
  go_enter Try.func40, Try.ntmps40
  go_wp2_with (at_builtin; refine wpList_app1 rfl _ _ 41 rfl 3 (.int .i64 0) 8 Try.underlying41 Try.info3 rfl (.slice a9 xs.length c9) xs.length _ rfl (hrow.alloc _) w.heap.size (.int .i64 ((i : Int) - 1)) rfl (cell_new1 _ _ _ _ rfl) rfl (by omega) (by decide) ?_; intro g' cap' w3 hown3 hgrow3 hg3; have hbx : Blk w3 Bl 41 [.slice a9 xs.length c9] := (HH.out.box.alloc _).of_same (hgrow3.block Bl (by simp; omega) (fun e => (HH.out.own Bl e.symm).2 rfl)); have hbc : w3.cell? ⟨Bl, 0, none⟩ = some (.slice a9 xs.length c9) := hbx.cell 0; have hbf := hbx.frozen 0)
  go_end0
  have hsz := hgrow3.size
  simp only [World.size_alloc] at hsz hg3
  have hF3 : Fr (Value.slice a9 xs.length c9).ownBlock.toList w w3 := ⟨hgrow3.os, hgrow3.tape, hgrow3.output, by omega, fun q hq hn => by
    rw [hgrow3.block q (by simp; omega) (fun e => hn (by simp [← e])), Below.heap_alloc _ _ _ hq]⟩
  have hgB : g' ≠ Bl := by
    rcases hg3 with e | e
    · exact (HH.out.own _ e).2
    · omega
  refine ⟨rfl, .slice (some ⟨g', 0, none⟩) (xs.length + 1) cap', ⟨?_, ?_, ?_⟩, ?_, ?_⟩
  · have := hbx.set 0 (.slice (some ⟨g', 0, none⟩) (xs.length + 1) cap')
    simpa using this
  · rw [List.length_append]
    refine ownsRow_other hown3 _ _ ?_
    simp only [Value.ownBlock, ne_eq, Option.some.injEq]; exact hgB
  · intro q hq
    simp only [Value.ownBlock, Option.some.injEq] at hq
    subst hq
    refine ⟨?_, hgB⟩
    rcases hg3 with e | e
    · exact (HH.out.own _ e).1
    · omega
  · exact (hF3.mono (S' := Bl :: (Value.slice a9 xs.length c9).ownBlock.toList) (fun b hb => .inl (by simp [hb]))).setCell _ _ (.inl (by simp))
  · intro q hq
    simp only [Value.ownBlock, Option.some.injEq] at hq
    subst hq
    rcases hg3 with e | e
    · exact .inl e
    · exact .inr (by omega)

theorem visit_w {w : World} {pf g N cap : Nat} {σ : Tbl} {ed : Int} (h : LctAt w pf g N cap σ ed) (hR : InR N σ) {t₀ : BT} {u n₀ Bl : Nat} {v₀ : Value} (hrep : Rep σ t₀ u) (hnd : t₀.nodes.Nodup) (hlt : ∀ x ∈ t₀.nodes, x < N)
    (hH : Holds w n₀ Bl v₀ []) (hp : pf < n₀) (hg : g < n₀) (hB : n₀ ≤ Bl) (hnw : n₀ ≤ w.heap.size) :
    Calls Try.prog 39 #[.pointer (some ⟨pf, 0, none⟩), .int .i64 t₀.root, .func (.func 40) #[] #[.pointer (some ⟨Bl, 0, none⟩)]] w fun e w' => e = .returned (.tuple #[]) ∧
      ∃ τ t' v, LctAt w' pf g N cap τ ed ∧ Rep τ t' u ∧ t'.seq = t₀.seq ∧ t'.nodes.Perm t₀.nodes ∧ Rotated σ τ t₀.nodes ∧ Holds w' n₀ Bl v (t₀.seq.map encP) ∧ Bx n₀ g w w' := by
  have hN := h.le
  have hlen : t₀.nodes.length ≤ N := nodup_le hnd hlt
  have HV := Lib.hid (show Vis N σ u t₀ σ [] t₀ from ⟨hrep, fun _ h => (by cases h), rfl, .refl _, Rotated.refl _ _, hR⟩)
  have HND := Lib.hid hnd; clear hnd
  have HLT := Lib.hid hlt; clear hlt hrep hR
  go_enter Try.func39, Try.ntmps39
  go_wp2
  go_loopg [1, 6] (2 * t₀.nodes.length + 1) (fun k x o wr => ∃ (τ : Tbl) (c : List Fm) (t : BT) (v : Value) (i : Nat), x = .int .i64 i ∧ Hid (t.root = i) ∧ LctAt wr pf g N cap τ ed ∧ wr.ownsRow 0 3 1 o (opens c).length ((opens c).reverse.map encI) ∧ Bx n₀ g w wr ∧
    Hid (Vis N σ u t₀ τ c t ∧ 2 * t.nodes.length + toGo c < k) ∧ Hid (Holds wr n₀ Bl v ((lefts c).map encP)) ∧ Hid (∀ q, o.ownBlock = some q → n₀ ≤ q ∧ q ≠ Bl ∧ v.ownBlock ≠ some q))
  case atStart => exact ⟨σ, [], t₀, v₀, t₀.root, rfl, Lib.hid rfl, h, World.ownsRow_nil _ _ _ _, Bx.refl _ _ _, Lib.hid ⟨HV.out, by simp [toGo]⟩, Lib.hid hH, Lib.hid (fun q e => by cases e)⟩
  case round =>
    clear h HV hH
    obtain ⟨τ, c, t, v, i, rfl, Hi, hL, hown, hBx, HV, HH, HQ⟩ := hrel
    obtain ⟨a9, c9, rfl⟩ := ownsRow_slice hown
    have hsw := hBx.size
    have d1 := hL.hd.cell 1
    simp only [List.getElem?_cons_zero, List.getElem?_cons_succ] at d1
    have hol : (opens c).length ≤ N := by
      have h1 := opens_len c
      have h2 := (plug_nodes c t).length_eq
      have h3 := HV.out.1.perm.length_eq
      simp only [List.length_append] at h2
      omega
    have hll : (lefts c).length ≤ N := by
      have h1 := congrArg List.length (plug_lr (t := t) HV.out.1.ff)
      have h2 := (BT.seq_perm (plug c t)).length_eq
      have h3 := HV.out.1.perm.length_eq
      simp only [List.length_append] at h1
      omega
    cases t with
    | node f l x r =>
      obtain rfl : x = i := Hi.out
      have hx0 : x ≠ 0 := (rep_plug.1 HV.out.1.rep).1.1.1
      have hxN : x < N := HLT.out x (HV.out.1.perm.mem_iff.1 ((plug_nodes c _).mem_iff.2 (by simp [BT.nodes])))
      have hb0 : ((x : Int) == 0) = false := beq_eq_false_iff_ne.2 (by omega)
      have hb1 : ((x : Int) != 0) = true := bne_iff_ne.2 (by omega)
      have hx2 : (x : Int) < N := by omega
      obtain ⟨l', r', hk0, hV', hlr⟩ := HV.out.1.down HND.out hxN
      have HVn := Lib.hid hV'; clear hV'
      have hmu := HV.out.2
      simp only [BT.nodes, List.length_append, List.length_cons] at hmu
      have HP := Lib.hid (push_w hL x hxN HV.out.1.inR)
      clear HV
      have Hx0 := Lib.hid hx0; clear hx0
      go_wp2_with fail
      refine HP.out.mono ?_
      rintro _ w2 ⟨rfl, hL2, hF2⟩
      clear HP hL d1
      have hown2 : w2.ownsRow 0 3 1 (.slice a9 (opens c).length c9) (opens c).length ((opens c).reverse.map encI) := ownsRow_same hown (fun q hq => hF2.keep q (hown.lt q hq).2 (by have := (HQ.out q hq).1; simp; omega))
      have hH2 := HH.out.fr hF2 (by simp; omega) (fun q hq => by have := (HH.out.own q hq).1; simp; omega)
      have HH2 := Lib.hid hH2; clear hH2 hown
      have hBx2 := hBx.trans (Bx.of_fr hF2 (Nat.le_trans hnw hBx.size))
      have hs2 := hF2.size
      go_wp2_with (at_builtin; refine wpList_app1 rfl _ _ 41 rfl 3 (.int .i64 0) 8 Try.underlying41 Try.info3 rfl (.slice a9 (opens c).length c9) (opens c).length _ rfl (hown2.alloc _) w2.heap.size (.int .i64 x) rfl (cell_new1 _ _ _ _ rfl) rfl (by omega) (by decide) ?_; intro g' cap' w3 hown3 hgrow3 hg3; have hF3 : Fr (Value.slice a9 (opens c).length c9).ownBlock.toList w2 w3 := ⟨hgrow3.os, hgrow3.tape, hgrow3.output, by have := hgrow3.size; simp at this; omega, fun q hq hn => by rw [hgrow3.block q (by simp; omega) (fun e => hn (by simp [← e])), Below.heap_alloc _ _ _ hq]⟩; have hL3 : LctAt w3 pf g N cap (push τ x) ed := hL2.grown (w := w2) (row := (Value.slice a9 (opens c).length c9).ownBlock) ⟨hF3.os, hF3.tape, hF3.output, hF3.size, fun k hk hn => hF3.keep k hk (by simpa using fun e => hn e.symm)⟩ (fun k e => by have := (HQ.out k e).1; omega); have d3 : w3.cell? ⟨pf, 1, none⟩ = some (.slice (some ⟨g, 0, none⟩) N cap) := hL3.hd.cell 1; have k3 := hL3.nodes.c0 x hxN; rw [hk0] at k3)
      go_roundg (2 * l'.nodes.length + toGo (⟨false, false, x, r'⟩ :: c) + 1)
      case measure => simp only [toGo, Bool.false_eq_true, if_false]; omega
      case rel =>
        simp only [World.size_alloc] at hg3
        have hvB : ∀ q, v.ownBlock = some q → q < w2.heap.size := fun q hq => (HH2.out.row.lt q hq).2
        refine ⟨push τ x, ⟨false, false, x, r'⟩ :: c, l', v, l'.root, rfl, Lib.hid rfl, hL3, ?_, ?_, Lib.hid ⟨HVn.out, Nat.lt_succ_self _⟩, Lib.hid ?_, Lib.hid ?_⟩
        · simp only [opens, Bool.false_eq_true, if_false, List.reverse_cons, List.map_append, List.length_cons, List.map_cons, List.map_nil]
          exact hown3
        · exact hBx2.trans ⟨hF3.os, hF3.tape, hF3.output, hF3.size, fun k hk hn => hF3.keep k (by omega) (fun hm => by have := (HQ.out k (by simpa using hm)).1; omega)⟩
        · have e : lefts (⟨false, false, x, r'⟩ :: c) = lefts c := by simp [lefts]
          rw [e]
          exact HH2.out.fr hF3 (fun hm => (HQ.out Bl (by simpa using hm)).2.1 rfl) (fun q hq hm => (HQ.out q (by simpa using hm)).2.2 hq)
        · intro q hq
          simp only [Value.ownBlock, Option.some.injEq] at hq
          subst hq
          rcases hg3 with e | e
          · exact HQ.out _ e
          · refine ⟨by omega, ?_, fun e2 => ?_⟩
            · have := HH2.out.box.lt; omega
            · have := hvB _ e2; omega
    | nil =>
      obtain rfl : 0 = i := Hi.out
      cases ho : opens c with
      | nil =>
        have hfin := HV.out.1.fin ho
        have HV1 := Lib.hid HV.out.1
        have HH1 := HH.out
        rw [hfin] at HH1
        have HH2 := Lib.hid HH1
        clear HH1 hfin HV HH HQ hown ho hol hll
        go_wp2
        go_end0
        exact ⟨rfl, τ, _, v, hL, HV1.out.rep, HV1.out.seq, HV1.out.perm, HV1.out.rot, HH2.out, hBx⟩
      | cons p ps =>
        have Ho := Lib.hid ho
        rw [ho] at hown hol
        clear ho
        obtain ⟨ob, c9', e⟩ := ownsRow_succ hown
        simp only [List.length_cons, Value.slice.injEq, true_and] at e
        obtain ⟨rfl, rfl⟩ := e
        simp only [List.length_cons, List.reverse_cons, List.map_append, List.map_cons, List.map_nil] at hown hol
        obtain ⟨hcp, hob, hcell⟩ := ownsRow_cells hown (by omega)
        have hc1 : wr.cell? ⟨ob, ps.length, none⟩ = some (.int .i64 p) := by
          rw [hcell ps.length (by omega), List.getElem?_append_right (by simp)]
          simp [encI]
        have hcut := ownsRow_cut hown
        have e2 : (List.map encI ps.reverse ++ [encI p]).take ps.length = ps.reverse.map encI := by
          rw [List.take_append_of_le_length (by simp), List.take_of_length_le (by simp)]
        rw [e2] at hcut
        clear hcell e2
        obtain ⟨rs, a, c', hc, h2, h3, h4, h5⟩ := opens_split Ho.out
        subst hc
        obtain ⟨hk1, hVn, hlf⟩ := HV.out.1.right h2 h3
        have hmu := HV.out.2
        rw [toGo_app h2] at hmu
        simp only [toGo, h3, Bool.false_eq_true, if_false, BT.nodes, List.length_nil] at hmu
        rw [h4] at hk1 hVn hlf
        have hpN : p < N := HLT.out p (HV.out.1.perm.mem_iff.1 ((plug_nodes _ _).mem_iff.2 (by
          rw [List.mem_append]; right; rw [← h4]; exact cnodes_p (by simp))))
        have HVn := Lib.hid hVn
        have Hlf := Lib.hid hlf
        have Hh5 := Lib.hid h5
        clear hVn hlf h5 HV h2 h3 h4 Ho hown
        have hp2 : (p : Int) < N := by omega
        have hln : ((lefts (rs ++ a :: c')).map encP).length ≤ 65537 := by simp; omega
        have HP := Lib.hid (path1_w HH.out hB p (by omega) hln)
        have hpl : ((ps.length : Int) + 1) - 1 = ps.length := by omega
        go_wp2_with fail
        refine HP.out.mono ?_
        rintro _ w2 ⟨rfl, v', hH', hF', hv'⟩
        have hHo : ∀ q, q ∈ Bl :: v.ownBlock.toList → n₀ ≤ q := by
          intro q hq
          rcases List.mem_cons.1 hq with rfl | hq
          · exact hB
          · exact (HH.out.own q (by simpa using hq)).1
        have hL2 : LctAt w2 pf g N cap τ ed := ⟨hF'.blk hL.hd (fun hm => by have := hHo _ hm; omega), hL.nodes.same (hF'.keep g hL.nodes.lt (fun hm => by have := hHo _ hm; omega)), hL.ne, hL.le, hL.cap⟩
        have d2 : w2.cell? ⟨pf, 1, none⟩ = some (.slice (some ⟨g, 0, none⟩) N cap) := hL2.hd.cell 1
        have k2 := hL2.nodes.c1 p hpN
        rw [hk1] at k2
        have hown2 : w2.ownsRow 0 3 1 (.slice (some ⟨ob, 0, none⟩) ps.length c9) ps.length (ps.reverse.map encI) := ownsRow_same hcut (fun q hq => hF'.keep q (hcut.lt q hq).2 (by
          have := HQ.out q hq
          intro hm
          rcases List.mem_cons.1 hm with e | e
          · exact this.2.1 e
          · exact this.2.2 (by simpa using e)))
        have HH' := Lib.hid hH'; clear hH' HP hL d1 hc1
        go_wp2
        go_roundg (2 * a.o.nodes.length + toGo (⟨true, false, p, plug rs .nil⟩ :: c') + 1)
        case measure => simp only [toGo, if_true]; omega
        case rel =>
          refine ⟨τ, ⟨true, false, p, plug rs .nil⟩ :: c', a.o, v', a.o.root, rfl, Lib.hid rfl, hL2, ?_, ?_, Lib.hid ⟨HVn.out, Nat.lt_succ_self _⟩, Lib.hid ?_, Lib.hid ?_⟩
          · simp only [opens, if_true]
            rw [Hh5.out]; exact hown2
          · exact hBx.trans ⟨hF'.os, hF'.tape, hF'.output, hF'.size, fun k hk hn => hF'.keep k (by omega) (fun hm => by have := hHo _ hm; omega)⟩
          · rw [Hlf.out, List.map_append]; exact HH'.out
          · intro q hq
            have h0 := HQ.out q hq
            refine ⟨h0.1, h0.2.1, fun e => ?_⟩
            rcases hv' q e with e2 | e2
            · exact h0.2.2 e2
            · have := (hcut.lt q hq).2; omega

end Go.Proofs.Ytoppjjgecgbbkaa
