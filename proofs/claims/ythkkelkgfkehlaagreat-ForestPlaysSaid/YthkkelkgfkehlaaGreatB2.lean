/- lct: side and hang. -/
import Derived.Test.YthkkelkgfkehlaaGreatB1
import Derived.Deep.QuietTactic
import Derived.BigQuiet
/- A region that draws its order, whose operations change the world at several places, which wait for each other in a row: one walk in the order of the text serves every order. -/
namespace Go.Proofs.YthkkelkgfkehlaaGreat
open Go.RowKit

/-- The operations ahead of all of cs (other than ps) read; number cs[q] leads from the class C q to C (q + 1); all others look at no world. -/
def manyG (P : Program) (cs ps : List Nat) (C : Nat → World → Prop) (i : Nat) (s : Sem Next) (v : Value) : Prop :=
  if i < cs.headD 0 ∧ i ∉ ps then ∀ w, C 0 w → Oper.quietUpon P (C 0) w v (s.run P w)
  else if i ∈ cs then ∀ w, C (cs.idxOf i) w → writeUpon P (C (cs.idxOf i + 1)) v (s.run P w) else ∀ w, pureUpon w v (s.run P w)

section
variable {P : Program} {ops : Array Oper} {md : Region.Mode} {C : Nat → World → Prop} {cs ps : List Nat}

/-- Each of cs waits for the one ahead of it, and the first one for all that stands ahead of it. -/
def rowB (md : Region.Mode) (ops : Array Oper) : List Nat → Bool
  | [] => true
  | [c] => decide (c < ops.size)
  | c :: d :: r => decide (c < ops.size) && decide (c < d) && (marks md ops (d + 1) ((Array.replicate ops.size false).setIfInBounds d true)).getD c false && rowB md ops (d :: r)

theorem waits_listed {L : Array Bool} (hL : Shut md ops L) {c d : Nat} (hB : (marks md ops (d + 1) ((Array.replicate ops.size false).setIfInBounds d true)).getD c false = true) (hd : L.getD d false = true) : L.getD c false = true := by
  refine marks_sub hL (d + 1) _ ?_ c hB
  intro j hj
  by_cases e : d = j
  · rw [← e]; exact hd
  · rw [getD_set_ne false e, rep_false] at hj
    cases hj

/-- How many of cs are listed. -/
def cnt (cs : List Nat) (L : Array Bool) : Nat := cs.countP (fun c => L.getD c false)

theorem row_lt : ∀ {cs : List Nat}, rowB md ops cs = true → ∀ c ∈ cs, c < ops.size
  | [], _, c, hc => by cases hc
  | [d], h, c, hc => by simp [rowB] at h; simp at hc; omega
  | d :: e :: r, h, c, hc => by
    simp only [rowB, Bool.and_eq_true, decide_eq_true_eq] at h
    rcases List.mem_cons.1 hc with rfl | hc
    · exact h.1.1.1
    · exact row_lt h.2 c hc
theorem row_sorted : ∀ {cs : List Nat}, rowB md ops cs = true → cs.Pairwise (· < ·)
  | [], _ => .nil
  | [d], _ => by simp
  | d :: e :: r, h => by
    simp only [rowB, Bool.and_eq_true, decide_eq_true_eq] at h
    have ih := row_sorted h.2
    refine List.Pairwise.cons (fun x hx => ?_) ih
    rcases List.mem_cons.1 hx with rfl | hx
    · exact h.1.1.2
    · exact Nat.lt_trans h.1.1.2 (List.rel_of_pairwise_cons ih hx)
/-- What is listed of a row is its beginning. -/
theorem row_prefix {L : Array Bool} (hL : Shut md ops L) : ∀ {cs : List Nat}, rowB md ops cs = true → ∀ q c, cs[q]? = some c → (L.getD c false = true ↔ q < cnt cs L)
  | [], _, q, c, h => by simp at h
  | [d], _, q, c, h => by
    cases q with
    | succ q => simp at h
    | zero =>
      simp at h; subst h
      simp only [cnt, List.countP_cons, List.countP_nil]
      by_cases hd : L.getD d false = true <;> simp [hd]
  | d :: e :: r, hB, q, c, h => by
    simp only [rowB, Bool.and_eq_true] at hB
    have ih := row_prefix hL hB.2
    by_cases hd : L.getD d false = true
    · have hcnt : cnt (d :: e :: r) L = cnt (e :: r) L + 1 := by simp only [cnt, List.countP_cons, hd]; simp
      cases q with
      | zero => simp at h; subst h; rw [hcnt]; simp [hd]
      | succ q =>
        have := ih q c (by simpa using h)
        rw [hcnt, this]; omega
    · have he : ¬ L.getD e false = true := fun he => hd (waits_listed hL hB.1.2 he)
      have h0 : cnt (e :: r) L = 0 := by
        have := ih 0 e (by simp)
        apply Classical.byContradiction
        intro hne
        exact he (this.2 (by omega))
      have hcnt : cnt (d :: e :: r) L = 0 := by
        have : cnt (d :: e :: r) L = cnt (e :: r) L := by simp only [cnt, List.countP_cons]; simp [hd]
        rw [this, h0]
      rw [hcnt]
      cases q with
      | zero => simp at h; subst h; simp [hd]
      | succ q =>
        have := ih q c (by simpa using h)
        rw [h0] at this
        rw [this]; omega

theorem cnt_set {L : Array Bool} {i : Nat} (hs : i < L.size) (hl : L.getD i false = false) (hnd : cs.Nodup) (hi : i ∈ cs) : cnt cs (L.setIfInBounds i true) = cnt cs L + 1 := by
  unfold cnt
  induction cs with
  | nil => cases hi
  | cons d r ih =>
    simp only [List.nodup_cons] at hnd
    simp only [List.countP_cons]
    by_cases e : d = i
    · subst e
      have h1 : r.countP (fun c => (L.setIfInBounds d true).getD c false) = r.countP (fun c => L.getD c false) := by
        apply List.countP_congr
        intro c hc
        rw [getD_set_ne false (show d ≠ c by rintro rfl; exact hnd.1 hc)]
      rw [h1]
      have h2 : (L.setIfInBounds d true).getD d false = true := by simp [hs]
      rw [h2, hl]; simp
    · rw [ih hnd.2 ((List.mem_cons.1 hi).resolve_left (fun h => e h.symm)), getD_set_ne false (fun h => e h.symm)]
      omega
theorem cnt_other {L : Array Bool} {i : Nat} (hi : i ∉ cs) : cnt cs (L.setIfInBounds i true) = cnt cs L := by
  unfold cnt
  apply List.countP_congr
  intro c hc
  rw [getD_set_ne false (show i ≠ c by rintro rfl; exact hi hc)]

def allBefore' (md : Region.Mode) (ops : Array Oper) (c : Nat) (ps : List Nat) : Bool := (List.range c).all fun i => ps.contains i || (marks md ops (c + 1) ((Array.replicate ops.size false).setIfInBounds c true)).getD i false

theorem before_listed' {L : Array Bool} {c : Nat} (hL : Shut md ops L) (hB : allBefore' md ops c ps = true) (hc : L.getD c false = true) : ∀ i, i < c ∧ i ∉ ps → L.getD i false = true := by
  intro i hi
  have h1 := List.all_eq_true.1 hB i (by simpa using hi.1)
  simp only [Bool.or_eq_true, List.contains_iff_mem] at h1
  refine marks_sub hL (c + 1) _ ?_ i (h1.resolve_left hi.2)
  intro j hj
  by_cases e : c = j
  · rw [← e]; exact hc
  · rw [getD_set_ne false e, rep_false] at hj
    cases hj

theorem any_of_gMany (hrow : rowB md ops cs = true) (hne : cs ≠ []) (hb : edgesBack md ops = true) (hbf : allBefore' md ops (cs.headD 0) ps = true) (hu : ∀ c ∈ cs, ∀ o, ops[c]? = some o → o.guard = none) {Q : Act → Prop} {Q' : Exit → Act → World → Prop} (hQ : ∀ a w, C cs.length w → Q a → Q' .normal a w) : ∀ (fuel : Nat) (listed : Array Bool) (a : Act) (w : World), listed.size = ops.size →
    Shut md ops listed → C (cnt cs listed) w → gAny (manyG P cs ps C) md ops Q fuel listed a → wpAny P md ops Q' fuel listed a w := by
  have hend : ∀ listed : Array Bool, listed.size = ops.size → Region.ready md ops listed = [] → cnt cs listed = cs.length := by
    intro listed hs h0
    unfold cnt
    rw [List.countP_eq_length]
    intro c hc
    exact ready_nil hs hb h0 c (row_lt hrow c hc)
  have hnd : cs.Nodup := (row_sorted hrow).imp (fun h => Nat.ne_of_lt h)
  intro fuel
  induction fuel with
  | zero =>
    intro listed a w hs _ hp h
    exact ⟨h.1, hQ _ _ (by rw [hend listed hs h.1] at hp; exact hp) h.2⟩
  | succ fuel ih =>
    intro listed a w hs hsh hp h
    refine ⟨fun h0 => hQ _ _ (by rw [hend listed hs h0] at hp; exact hp) (h.1 h0), fun i hi => ?_⟩
    have hg := h.2 i hi
    obtain ⟨hun, oi, hoi, _⟩ := mem_ready.1 hi
    have hil : i < ops.size := (Array.getElem?_eq_some_iff.1 hoi).1
    have hs' : (listed.setIfInBounds i true).size = ops.size := by simp [hs]
    have hl0 : listed.getD i false = false := by
      simp [hs, hil] at hun ⊢; exact hun
    have next : ∀ a' w', C (cnt cs (listed.setIfInBounds i true)) w' → gAny (manyG P cs ps C) md ops Q fuel (listed.setIfInBounds i true) a' → wpAny P md ops Q' fuel (listed.setIfInBounds i true) a' w' :=
      fun a' w' hp' hg' => ih _ a' w' hs' (hsh.set hi) hp' hg'
    unfold gOp at hg
    unfold wpOp
    simp only [hoi] at hg ⊢
    by_cases hmem : i ∈ cs
    · have hcs := cnt_set (L := listed) (by omega) hl0 hnd hmem
      have hhead : ¬ i < cs.headD 0 := by
        cases hcc : cs with
        | nil => exact absurd hcc hne
        | cons d r =>
          rw [hcc] at hmem
          have := row_sorted hrow
          rw [hcc] at this
          rcases List.mem_cons.1 hmem with rfl | hm
          · simp
          · have := List.rel_of_pairwise_cons this hm; simp; omega
      have hidx : cs.idxOf i = cnt cs listed := by
        have hlt := List.idxOf_lt_length_of_mem hmem
        have hget : cs[cs.idxOf i]? = some i := by rw [List.getElem?_eq_getElem hlt, List.getElem_idxOf]
        have h1 := row_prefix hsh hrow _ _ hget
        rw [hl0] at h1
        have hge : cnt cs listed ≤ cs.idxOf i := by
          apply Classical.byContradiction
          intro hx
          have := h1.2 (by omega)
          cases this
        have h2 := row_prefix (hsh.set hi) hrow _ _ hget
        rw [hcs] at h2
        have h3 : (listed.setIfInBounds i true).getD i false = true := by simp [hs, hil]
        have := h2.1 h3
        omega
      have hw : Region.wanted oi (yielded ops a.tmps) = true := by simp [Region.wanted, hu i hmem oi hoi]
      rw [if_pos hw] at hg ⊢
      obtain ⟨v, hv, hk⟩ := hg
      unfold manyG at hv
      rw [if_neg (fun hx => hhead hx.1), if_pos hmem, hidx] at hv
      exact .inl (write_upon (fun w' hc' => next _ w' (by rw [hcs]; exact hc') hk) (hv w hp))
    · have hcs := cnt_other (L := listed) hmem
      by_cases hw : Region.wanted oi (yielded ops a.tmps) = true
      · rw [if_pos hw] at hg ⊢
        obtain ⟨v, hv, hk⟩ := hg
        unfold manyG at hv
        left
        by_cases hlt : i < cs.headD 0 ∧ i ∉ ps
        · have h0 : cnt cs listed = 0 := by
            cases hcc : cs with
            | nil => exact absurd hcc hne
            | cons d r =>
              apply Classical.byContradiction
              intro hx
              have h1 := (row_prefix hsh hrow 0 d (by rw [hcc]; rfl)).2 (by rw [hcc]; omega)
              rw [hcc] at hlt hbf
              rw [before_listed' hsh hbf h1 i hlt] at hl0
              cases hl0
          rw [if_pos hlt] at hv
          rw [h0] at hp
          exact quiet_upon hp (fun w' hc' => next _ w' (by rw [hcs, h0]; exact hc') hk) (hv w hp)
        · rw [if_neg hlt, if_neg hmem] at hv
          exact pure_upon (next _ w (by rw [hcs]; exact hp) hk) (hv w)
      · rw [if_neg hw] at hg ⊢
        exact next _ w (by rw [hcs]; exact hp) hg

/-- The law. -/
theorem region_many (cs ps : List Nat) {id : Nat} {Q : Exit → Act → World → Prop} {a : Act} {w : World} {l : List Oper} (C : Nat → World → Prop) (hC : ∀ w', C 0 w' ↔ ∃ n, w' = w.drewN n) (hm : P.follows .mixedOrders = true) (hB : Region.lexB .any l.toArray = true)
    (hk : (((edgesBack .any l.toArray && allBefore' .any l.toArray (cs.headD 0) ps) && (rowB .any l.toArray cs && !cs.isEmpty)) && cs.all fun c => match l[c]? with | some o => o.guard.isNone | none => false) = true)
    (h : gWalk (manyG P cs ps C) l.toArray (fun a' => ∀ w', C cs.length w' → Q .normal a' w') 0 l a) : (Code.region id l.toArray true).wp P Q a w := by
  simp only [Region.lexB, Bool.and_eq_true] at hB
  rw [Bool.and_eq_true, Bool.and_eq_true, Bool.and_eq_true, Bool.and_eq_true] at hk
  obtain ⟨⟨⟨hk1, hk3⟩, hk4, hk5⟩, hk2⟩ := hk
  have hne : cs ≠ [] := by rintro rfl; simp at hk5
  have hg : ∀ c ∈ cs, ∀ o, l.toArray[c]? = some o → o.guard = none := by
    intro c hc o ho
    have h1 := List.all_eq_true.1 hk2 c hc
    simp only [List.getElem?_toArray] at ho
    rw [ho] at h1
    simpa using h1
  refine wp_region_any hm (any_of_gMany (Q := fun a' => ∀ w', C cs.length w' → Q .normal a' w') (C := C) (cs := cs) (ps := ps) hk4 hne hk1 hk3 hg (fun _ w' hw' h => h w' hw') _ _ _ _ (by simp) ?_ ?_ ?_)
  · intro j oj _ hl; rw [rep_false] at hl; cases hl
  · have : cnt cs (Array.replicate l.toArray.size false) = 0 := by
      unfold cnt; rw [List.countP_eq_zero]; intro c _; rw [rep_false]; simp
    rw [this]
    exact (hC _).2 ⟨1, rfl⟩
  · have := gAny_lex (G := manyG P cs ps C) (md := .any) hB.1 l 0 (Array.replicate l.toArray.size false) a (by simp) (by simpa using hB.2) h
    simpa using this

theorem mWalk_pre {Q : Act → Prop} {k : Nat} {o : Oper} {rest : List Oper} {a : Act} (hk : decide (k < cs.headD 0 ∧ k ∉ ps) = true)
    (h : ∀ K : Act → Prop, (∀ a, gWalk (manyG P cs ps C) ops Q (k + 1) rest a → K a) → if Region.wanted o (yielded ops a.tmps) then o.quiet P a (C 0) K else K (a.put o.dst undef)) : gWalk (manyG P cs ps C) ops Q k (o :: rest) a := by
  have h := h _ (fun _ h => h)
  unfold gWalk
  by_cases hw : Region.wanted o (yielded ops a.tmps) = true
  · rw [if_pos hw] at *
    obtain ⟨v, h1, h2⟩ := h
    refine ⟨v, ?_, h2⟩
    unfold manyG; rw [if_pos (of_decide_eq_true hk)]; exact h1
  · rw [if_neg hw] at *; exact h
theorem mWalk_write {Q : Act → Prop} {k q : Nat} {o : Oper} {rest : List Oper} {a : Act} (hk : (decide (¬ (k < cs.headD 0 ∧ k ∉ ps)) && decide (k ∈ cs) && decide (cs.idxOf k = q)) = true) (hg : o.guard = none) (v : Value)
    (h0 : ∀ w, C q w → writeUpon P (C (q + 1)) v ((execOp a.eval o).run P w)) (h : gWalk (manyG P cs ps C) ops Q (k + 1) rest (a.put o.dst v)) : gWalk (manyG P cs ps C) ops Q k (o :: rest) a := by
  simp only [Bool.and_eq_true, decide_eq_true_eq] at hk
  unfold gWalk
  rw [if_pos (by simp [Region.wanted, hg])]
  refine ⟨v, ?_, h⟩
  unfold manyG
  rw [if_neg hk.1.1, if_pos hk.1.2, hk.2]
  exact h0
theorem mWalk_post {Q : Act → Prop} {k : Nat} {o : Oper} {rest : List Oper} {a : Act} (hk : (decide (¬ (k < cs.headD 0 ∧ k ∉ ps)) && decide (k ∉ cs)) = true)
    (h : ∀ K : Act → Prop, (∀ a, gWalk (manyG P cs ps C) ops Q (k + 1) rest a → K a) → if Region.wanted o (yielded ops a.tmps) then Oper.pure_ P o a K else K (a.put o.dst undef)) : gWalk (manyG P cs ps C) ops Q k (o :: rest) a := by
  simp only [Bool.and_eq_true, decide_eq_true_eq] at hk
  have h := h _ (fun _ h => h)
  unfold gWalk
  by_cases hw : Region.wanted o (yielded ops a.tmps) = true
  · rw [if_pos hw] at *
    obtain ⟨v, h1, h2⟩ := h
    refine ⟨v, ?_, h2⟩
    unfold manyG; rw [if_neg hk.1, if_neg hk.2]; exact h1
  · rw [if_neg hw] at *; exact h
theorem mWalk_nil {Q : Act → Prop} {k : Nat} {a : Act} (h : Q a) : gWalk (manyG P cs ps C) ops Q k [] a := h
end
end Go.Proofs.YthkkelkgfkehlaaGreat

/- A region that draws its order, whose operations give the same values in every world of a class and keep the class: one walk in the order of the text serves every order. -/
namespace Go.Proofs.YthkkelkgfkehlaaGreat
open Go.RowKit

section
variable {P : Program} {ops : Array Oper} {C : World → Prop}
theorem region_class {id : Nat} {Q : Exit → Act → World → Prop} {a : Act} {w : World} {l : List Oper} (C : World → Prop) (hm : P.follows .mixedOrders = true) (hB : Region.lexB .any l.toArray = true) (hC : C w.drew)
    (h : wpQuiet P l.toArray C (fun a' => ∀ w', C w' → Q .normal a' w') l a) : (Code.region id l.toArray true).wp P Q a w :=
  wp_region_quiet hm hB hC (by simpa using h)
theorem cWalk_pure {Q : Act → Prop} {o : Oper} {rest : List Oper} {a : Act}
    (h : ∀ K : Act → Prop, (∀ a, wpQuiet P ops C Q rest a → K a) → if Region.wanted o (yielded ops a.tmps) then Oper.pure_ P o a K else K (a.put o.dst undef)) : wpQuiet P ops C Q (o :: rest) a := by
  have h := h _ (fun _ h => h)
  unfold wpQuiet
  by_cases hw : Region.wanted o (yielded ops a.tmps) = true
  · rw [if_pos hw] at *
    obtain ⟨v, h1, h2⟩ := h
    refine ⟨v, fun w _ => ?_, h2⟩
    have := h1 w
    unfold Oper.quietAt
    revert this
    generalize (execOp a.eval o).run P w = r
    intro this
    cases r with
    | halt x w' => exact this.elim
    | ok x w' =>
      cases x with
      | value u => exact ⟨this.1, this.2⟩
      | skip => exact ⟨this.1, this.2⟩
      | _ => exact this.elim
  · rw [if_neg hw] at *; exact h
theorem cWalk_val {Q : Act → Prop} {o : Oper} {rest : List Oper} {a : Act} (hg : o.guard = none) (v : Value)
    (h0 : ∀ w, C w → Oper.quietUpon P C w v ((execOp a.eval o).run P w)) (h : wpQuiet P ops C Q rest (a.put o.dst v)) : wpQuiet P ops C Q (o :: rest) a := by
  unfold wpQuiet
  rw [if_pos (by simp [Region.wanted, hg])]
  exact ⟨v, h0, h⟩
theorem cWalk_nil {Q : Act → Prop} {a : Act} (h : Q a) : wpQuiet P ops C Q [] a := h

/-- The same walk behind a structure, so that nothing unfolds it. -/
structure CW (P : Program) (ops : Array Oper) (C : World → Prop) (Q : Act → Prop) (l : List Oper) (a : Act) : Prop where
  out : wpQuiet P ops C Q l a
theorem region_cw {id : Nat} {Q : Exit → Act → World → Prop} {a : Act} {w : World} {l : List Oper} (C : World → Prop) (hm : P.follows .mixedOrders = true) (hB : Region.lexB .any l.toArray = true) (hC : C w.drew)
    (h : CW P l.toArray C (fun a' => ∀ w', C w' → Q .normal a' w') l a) : (Code.region id l.toArray true).wp P Q a w := region_class C hm hB hC h.out
theorem cw_skip {Q : Act → Prop} {o : Oper} {rest : List Oper} {a : Act} (hw : Region.wanted o (yielded ops a.tmps) = false) (h : CW P ops C Q rest (a.put o.dst undef)) : CW P ops C Q (o :: rest) a := by
  refine ⟨?_⟩
  unfold wpQuiet
  rw [if_neg (by rw [hw]; exact Bool.false_ne_true)]
  exact h.out
theorem cw_pure {Q : Act → Prop} {o : Oper} {rest : List Oper} {a : Act} (hw : Region.wanted o (yielded ops a.tmps) = true)
    (h : ∀ K : Act → Prop, Hid (∀ a, CW P ops C Q rest a → K a) → Oper.pure_ P o a K) : CW P ops C Q (o :: rest) a :=
  ⟨cWalk_pure fun K hK => by rw [if_pos hw]; exact h K (Lib.hid (fun a h => hK a h.out))⟩
theorem cw_val {Q : Act → Prop} {o : Oper} {rest : List Oper} {a : Act} (hw : Region.wanted o (yielded ops a.tmps) = true) (v : Value)
    (h0 : ∀ w, C w → Oper.quietUpon P C w v ((execOp a.eval o).run P w)) (h : CW P ops C Q rest (a.put o.dst v)) : CW P ops C Q (o :: rest) a := by
  refine ⟨?_⟩
  unfold wpQuiet
  rw [if_pos hw]
  exact ⟨v, h0, h.out⟩
theorem cw_nil {Q : Act → Prop} {a : Act} (h : Q a) : CW P ops C Q [] a := ⟨h⟩
end
end Go.Proofs.YthkkelkgfkehlaaGreat

/- The nodes of a link-cut forest in memory. -/
namespace Go.Proofs.YthkkelkgfkehlaaGreat
open Go.RowKit

structure Nd where
  k0 : Nat
  k1 : Nat
  up : Nat
  flip : Bool
  key : Int
  size : Int
  first : Nat
  light : Int
  total : Int

def fv (n : Nd) : Nat → Value
  | 0 => .int .i64 n.k0
  | 1 => .int .i64 n.k1
  | 2 => .int .i64 n.up
  | 3 => .bool n.flip
  | 4 => .int .i64 n.key
  | 5 => .int .i64 n.size
  | 6 => .int .i64 n.first
  | 7 => .int .i64 n.light
  | _ => .int .i64 n.total

abbrev Tbl := Nat → Nd
def Tbl.upd (σ : Tbl) (i : Nat) (n : Nd) : Tbl := fun j => if j = i then n else σ j

def NodesAt (w : World) (g N : Nat) (σ : Tbl) : Prop :=
  ∃ arr : Array Value, w.heap[g]? = some (.cells arr 86 (0, 0)) ∧ N * 9 ≤ arr.size ∧ ∀ i, i < N → ∀ f, f < 9 → arr[i * 9 + f]? = some (fv (σ i) f)

theorem NodesAt.cell {w : World} {g N : Nat} {σ : Tbl} (h : NodesAt w g N σ) {i f : Nat} (hi : i < N) (hf : f < 9) : w.cell? ⟨g, i * 9 + f, none⟩ = some (fv (σ i) f) := by
  obtain ⟨arr, h1, _, h2⟩ := h
  simp [World.cell?, h1]; exact h2 i hi f hf
theorem NodesAt.frozen {w : World} {g N : Nat} {σ : Tbl} (h : NodesAt w g N σ) (c : Nat) : w.frozen? ⟨g, c, none⟩ = false := by
  obtain ⟨arr, h1, _⟩ := h
  simp [World.frozen?, h1]
theorem NodesAt.lt {w : World} {g N : Nat} {σ : Tbl} (h : NodesAt w g N σ) : g < w.heap.size := by
  obtain ⟨arr, h1, _⟩ := h; exact (Array.getElem?_eq_some_iff.1 h1).1
theorem NodesAt.same {w w' : World} {g N : Nat} {σ : Tbl} (h : NodesAt w g N σ) (e : w'.heap[g]? = w.heap[g]?) : NodesAt w' g N σ := by
  obtain ⟨arr, h1, r⟩ := h; exact ⟨arr, e.trans h1, r⟩
theorem NodesAt.eqv {w w' : World} {g N : Nat} {σ : Tbl} (h : NodesAt w g N σ) (e : Eqv w' w) : NodesAt w' g N σ := h.same (by rw [e.heap])
theorem NodesAt.congr {w : World} {g N : Nat} {σ τ : Tbl} (h : NodesAt w g N σ) (e : ∀ i, i < N → σ i = τ i) : NodesAt w g N τ := by
  obtain ⟨arr, h1, h2, h3⟩ := h
  exact ⟨arr, h1, h2, fun i hi f hf => by rw [← e i hi]; exact h3 i hi f hf⟩
theorem NodesAt.store {w : World} {g N : Nat} {σ : Tbl} (h : NodesAt w g N σ) {i f : Nat} (hi : i < N) (hf : f < 9) (n : Nd) (v : Value) (hv : fv n f = v) (ho : ∀ f', f' < 9 → f' ≠ f → fv n f' = fv (σ i) f') :
    NodesAt (w.setCell ⟨g, i * 9 + f, none⟩ v) g N (σ.upd i n) := by
  obtain ⟨arr, h1, h2, h3⟩ := h
  refine ⟨arr.setIfInBounds (i * 9 + f) v, ?_, by simpa using h2, fun j hj f' hf' => ?_⟩
  · simp only [World.setCell, Array.getElem?_modify]
    simp [h1]
  · rw [Array.getElem?_setIfInBounds]
    by_cases e : i * 9 + f = j * 9 + f'
    · have e1 : i = j := by omega
      have e2 : f = f' := by omega
      subst e1; subst e2
      rw [if_pos rfl, if_pos (by omega)]
      simp [Tbl.upd, hv]
    · rw [if_neg e, h3 j hj f' hf']
      simp only [Tbl.upd]
      by_cases ej : j = i
      · subst ej; rw [if_pos rfl, ho f' hf' (fun e' => e (by omega))]
      · rw [if_neg ej]

section
variable {w : World} {g N : Nat} {σ : Tbl} (h : NodesAt w g N σ)
include h
theorem NodesAt.c0 : ∀ i, i < N → w.cell? ⟨g, i * 9, none⟩ = some (.int .i64 (σ i).k0) := fun i hi => h.cell (f := 0) hi (by decide)
theorem NodesAt.c1 : ∀ i, i < N → w.cell? ⟨g, i * 9 + 1, none⟩ = some (.int .i64 (σ i).k1) := fun i hi => h.cell (f := 1) hi (by decide)
theorem NodesAt.c2 : ∀ i, i < N → w.cell? ⟨g, i * 9 + 2, none⟩ = some (.int .i64 (σ i).up) := fun i hi => h.cell (f := 2) hi (by decide)
theorem NodesAt.c3 : ∀ i, i < N → w.cell? ⟨g, i * 9 + 3, none⟩ = some (.bool (σ i).flip) := fun i hi => h.cell (f := 3) hi (by decide)
theorem NodesAt.c4 : ∀ i, i < N → w.cell? ⟨g, i * 9 + 4, none⟩ = some (.int .i64 (σ i).key) := fun i hi => h.cell (f := 4) hi (by decide)
theorem NodesAt.c5 : ∀ i, i < N → w.cell? ⟨g, i * 9 + 5, none⟩ = some (.int .i64 (σ i).size) := fun i hi => h.cell (f := 5) hi (by decide)
theorem NodesAt.c6 : ∀ i, i < N → w.cell? ⟨g, i * 9 + 6, none⟩ = some (.int .i64 (σ i).first) := fun i hi => h.cell (f := 6) hi (by decide)
theorem NodesAt.c7 : ∀ i, i < N → w.cell? ⟨g, i * 9 + 7, none⟩ = some (.int .i64 (σ i).light) := fun i hi => h.cell (f := 7) hi (by decide)
theorem NodesAt.c8 : ∀ i, i < N → w.cell? ⟨g, i * 9 + 8, none⟩ = some (.int .i64 (σ i).total) := fun i hi => h.cell (f := 8) hi (by decide)
end

/-- The forest's header and its nodes. -/
structure LctAt (w : World) (pf g N : Nat) (cap : Nat) (σ : Tbl) (edges : Int) : Prop where
  hd : Blk w pf 82 [.pointer (some ⟨pf, 0, none⟩), .slice (some ⟨g, 0, none⟩) N cap, .int .i64 edges]
  nodes : NodesAt w g N σ
  ne : pf ≠ g
  le : N ≤ 65537
  cap : N ≤ cap

def beforeB (σ : Tbl) (i j : Nat) : Bool := decide ((σ i).key < (σ j).key) || (decide ((σ i).key = (σ j).key) && decide (i < j))

set_option maxRecDepth 10000
set_option maxHeartbeats 400000

theorem before_w {w : World} {pf g N cap : Nat} {σ : Tbl} {ed : Int} (h : LctAt w pf g N cap σ ed) (i j : Nat) (hi : i < N) (hj : j < N) :
    Calls Tryz.prog 70 #[.pointer (some ⟨pf, 0, none⟩), .int .i64 i, .int .i64 j] w fun e w' => e = .returned (.bool (beforeB σ i j)) ∧ ∃ n, w' = w.drewN n := by
  have c1 := h.hd.cell 1
  simp only [List.getElem?_cons_zero, List.getElem?_cons_succ] at c1
  have ci := h.nodes.c4 i hi
  have cj := h.nodes.c4 j hj
  have hN := h.le
  have hi2 : (i : Int) < N := by omega
  have hj2 : (j : Int) < N := by omega
  by_cases h1 : (σ i).key < (σ j).key
  · have d1 : decide ((σ i).key < (σ j).key) = true := decide_eq_true h1
    have hr : beforeB σ i j = true := by simp [beforeB, h1]
    rw [hr]; clear hr
    go_enter Tryz.func70, Tryz.ntmps70
    go_wp2
    go_quiet (fail)
    go_wp2
    go_ret
    exact ⟨rfl, _, rfl⟩
  · have d1 : decide ((σ i).key < (σ j).key) = false := decide_eq_false h1
    by_cases h2 : (σ i).key = (σ j).key
    · have d2 : ((σ i).key == (σ j).key) = true := beq_iff_eq.2 h2
      have hr : beforeB σ i j = decide (i < j) := by simp [beforeB, h2]
      rw [hr]; clear hr
      have H2 := Lib.hid h2; clear h2
      by_cases h3 : i < j
      · have d3 : decide ((i : Int) < (j : Int)) = true := decide_eq_true (by omega)
        have d4 : decide (i < j) = true := decide_eq_true h3
        rw [d4]; clear d4
        go_enter Tryz.func70, Tryz.ntmps70
        go_wp2
        go_quiet (fail)
        go_wp2
        go_ret
        exact ⟨rfl, _, rfl⟩
      · have d3 : decide ((i : Int) < (j : Int)) = false := decide_eq_false (by omega)
        have d4 : decide (i < j) = false := decide_eq_false h3
        rw [d4]; clear d4
        go_enter Tryz.func70, Tryz.ntmps70
        go_wp2
        go_quiet (fail)
        go_wp2
        go_ret
        exact ⟨rfl, _, rfl⟩
    · have d2 : ((σ i).key == (σ j).key) = false := beq_eq_false_iff_ne.2 h2
      have hr : beforeB σ i j = false := by simp [beforeB, h1, h2]
      rw [hr]; clear hr
      have H2 := Lib.hid h2; clear h2
      go_enter Tryz.func70, Tryz.ntmps70
      go_wp2
      go_quiet (fail)
      go_wp2
      go_ret
      exact ⟨rfl, _, rfl⟩

end Go.Proofs.YthkkelkgfkehlaaGreat

/- lct: refresh. -/
namespace Go.Proofs.YthkkelkgfkehlaaGreat
open Go.RowKit

/-- What is kept of a subtree is joined with that of a kid. -/
def refKid (σ : Tbl) (i k : Nat) : Tbl :=
  if k = 0 then σ else
    let σ1 := σ.upd i { σ i with size := wrap64 ((σ i).size + (σ k).size) }
    let σ2 := σ1.upd i { σ1 i with total := wrap64 ((σ1 i).total + (σ1 k).total) }
    if beforeB σ2 (σ2 k).first (σ2 i).first then σ2.upd i { σ2 i with first := (σ2 k).first } else σ2
def ref0 (σ : Tbl) (i : Nat) : Tbl := σ.upd i { σ i with size := 1, first := i, total := wrap64 (1 + (σ i).light) }
def refT (σ : Tbl) (i : Nat) : Nat → Tbl
  | 0 => ref0 σ i
  | 1 => refKid (ref0 σ i) i (σ i).k0
  | _ => refKid (refKid (ref0 σ i) i (σ i).k0) i (σ i).k1
def refresh (σ : Tbl) (i : Nat) : Tbl := refT σ i 2

theorem upd_same (σ : Tbl) (i : Nat) (n : Nd) : σ.upd i n i = n := by simp [Tbl.upd]
theorem upd_other {σ : Tbl} {i j : Nat} {n : Nd} (h : j ≠ i) : σ.upd i n j = σ j := by simp [Tbl.upd, h]

/-- All places are places of the table. -/
def InR (N : Nat) (σ : Tbl) : Prop := ∀ i, i < N → (σ i).k0 < N ∧ (σ i).k1 < N ∧ (σ i).up < N ∧ (σ i).first < N

theorem refKid_other {σ : Tbl} {i k j : Nat} (h : j ≠ i) : refKid σ i k j = σ j := by
  unfold refKid
  by_cases hk : k = 0
  · rw [if_pos hk]
  · rw [if_neg hk]; dsimp only; split <;> simp [upd_other h]
theorem refKid_links {σ : Tbl} {i k j : Nat} : (refKid σ i k j).k0 = (σ j).k0 ∧ (refKid σ i k j).k1 = (σ j).k1 ∧ (refKid σ i k j).up = (σ j).up ∧ (refKid σ i k j).flip = (σ j).flip ∧ (refKid σ i k j).key = (σ j).key ∧ (refKid σ i k j).light = (σ j).light := by
  by_cases h : j = i
  · subst h
    unfold refKid
    by_cases hk : k = 0
    · rw [if_pos hk]; simp
    · rw [if_neg hk]; dsimp only; split <;> simp [upd_same]
  · rw [refKid_other h]; simp
theorem refKid_inR {N : Nat} {σ : Tbl} {i k : Nat} (h : InR N σ) (hi : i < N) (hk : k < N) (hki : k ≠ i) : InR N (refKid σ i k) := by
  intro j hj
  obtain ⟨a, b, c, _⟩ := @refKid_links σ i k j
  rw [a, b, c]
  refine ⟨(h j hj).1, (h j hj).2.1, (h j hj).2.2.1, ?_⟩
  by_cases e : j = i
  · subst e
    unfold refKid
    by_cases hk0 : k = 0
    · rw [if_pos hk0]; exact (h j hj).2.2.2
    · rw [if_neg hk0]; dsimp only; split
      · simp [upd_same, upd_other hki]; exact (h k hk).2.2.2
      · simp [upd_same]; exact (h j hj).2.2.2
  · rw [refKid_other e]; exact (h j hj).2.2.2
theorem ref0_inR {N : Nat} {σ : Tbl} {i : Nat} (h : InR N σ) (hi : i < N) : InR N (ref0 σ i) := by
  intro j hj
  by_cases e : j = i
  · subst e; simp only [ref0, upd_same]; exact ⟨(h j hj).1, (h j hj).2.1, (h j hj).2.2.1, hi⟩
  · simp only [ref0, upd_other e]; exact h j hj
theorem refT_inR {N : Nat} {σ : Tbl} {i : Nat} (h : InR N σ) (hi : i < N) (h0 : (σ i).k0 ≠ i) (h1 : (σ i).k1 ≠ i) (t : Nat) : InR N (refT σ i t) := by
  match t with
  | 0 => exact ref0_inR h hi
  | 1 => exact refKid_inR (ref0_inR h hi) hi (h i hi).1 h0
  | t + 2 => exact refKid_inR (refKid_inR (ref0_inR h hi) hi (h i hi).1 h0) hi (h i hi).2.1 h1

theorem LctAt.store {w w0 : World} {pf g N cap : Nat} {σ : Tbl} {ed : Int} (h : LctAt w pf g N cap σ ed) (hF : Fr [g] w0 w) {i f : Nat} (hi : i < N) (hf : f < 9) (n : Nd) (v : Value) (hv : fv n f = v) (ho : ∀ f', f' < 9 → f' ≠ f → fv n f' = fv (σ i) f') :
    LctAt (w.setCell ⟨g, i * 9 + f, none⟩ v) pf g N cap (σ.upd i n) ed ∧ Fr [g] w0 (w.setCell ⟨g, i * 9 + f, none⟩ v) :=
  ⟨⟨h.hd.other _ _ h.ne, h.nodes.store hi hf n v hv ho, h.ne, h.le, h.cap⟩, hF.setCell _ _ (.inl (by simp))⟩
theorem LctAt.eqv {w w' : World} {pf g N cap : Nat} {σ : Tbl} {ed : Int} (h : LctAt w pf g N cap σ ed) (e : Eqv w' w) : LctAt w' pf g N cap σ ed :=
  ⟨e.blk h.hd, h.nodes.eqv e, h.ne, h.le, h.cap⟩

section
variable {w w0 : World} {pf g N cap : Nat} {σ : Tbl} {ed : Int} (h : LctAt w pf g N cap σ ed) (hF : Fr [g] w0 w) {i : Nat} (hi : i < N)
include h hF hi
theorem LctAt.st0 (x : Nat) : LctAt (w.setCell ⟨g, i * 9, none⟩ (.int .i64 x)) pf g N cap (σ.upd i { σ i with k0 := x }) ed ∧ Fr [g] w0 (w.setCell ⟨g, i * 9, none⟩ (.int .i64 x)) :=
  h.store hF hi (f := 0) (by decide) _ _ rfl (by intro f' h1 h2; match f', h1, h2 with | 1, _, _ => rfl | 2, _, _ => rfl | 3, _, _ => rfl | 4, _, _ => rfl | 5, _, _ => rfl | 6, _, _ => rfl | 7, _, _ => rfl | _ + 8, _, _ => rfl)
theorem LctAt.st1 (x : Nat) : LctAt (w.setCell ⟨g, i * 9 + 1, none⟩ (.int .i64 x)) pf g N cap (σ.upd i { σ i with k1 := x }) ed ∧ Fr [g] w0 (w.setCell ⟨g, i * 9 + 1, none⟩ (.int .i64 x)) :=
  h.store hF hi (f := 1) (by decide) _ _ rfl (by intro f' h1 h2; match f', h1, h2 with | 0, _, _ => rfl | 2, _, _ => rfl | 3, _, _ => rfl | 4, _, _ => rfl | 5, _, _ => rfl | 6, _, _ => rfl | 7, _, _ => rfl | _ + 8, _, _ => rfl)
theorem LctAt.st2 (x : Nat) : LctAt (w.setCell ⟨g, i * 9 + 2, none⟩ (.int .i64 x)) pf g N cap (σ.upd i { σ i with up := x }) ed ∧ Fr [g] w0 (w.setCell ⟨g, i * 9 + 2, none⟩ (.int .i64 x)) :=
  h.store hF hi (f := 2) (by decide) _ _ rfl (by intro f' h1 h2; match f', h1, h2 with | 0, _, _ => rfl | 1, _, _ => rfl | 3, _, _ => rfl | 4, _, _ => rfl | 5, _, _ => rfl | 6, _, _ => rfl | 7, _, _ => rfl | _ + 8, _, _ => rfl)
theorem LctAt.st3 (x : Bool) : LctAt (w.setCell ⟨g, i * 9 + 3, none⟩ (.bool x)) pf g N cap (σ.upd i { σ i with flip := x }) ed ∧ Fr [g] w0 (w.setCell ⟨g, i * 9 + 3, none⟩ (.bool x)) :=
  h.store hF hi (f := 3) (by decide) _ _ rfl (by intro f' h1 h2; match f', h1, h2 with | 0, _, _ => rfl | 1, _, _ => rfl | 2, _, _ => rfl | 4, _, _ => rfl | 5, _, _ => rfl | 6, _, _ => rfl | 7, _, _ => rfl | _ + 8, _, _ => rfl)
theorem LctAt.st4 (x : Int) : LctAt (w.setCell ⟨g, i * 9 + 4, none⟩ (.int .i64 x)) pf g N cap (σ.upd i { σ i with key := x }) ed ∧ Fr [g] w0 (w.setCell ⟨g, i * 9 + 4, none⟩ (.int .i64 x)) :=
  h.store hF hi (f := 4) (by decide) _ _ rfl (by intro f' h1 h2; match f', h1, h2 with | 0, _, _ => rfl | 1, _, _ => rfl | 2, _, _ => rfl | 3, _, _ => rfl | 5, _, _ => rfl | 6, _, _ => rfl | 7, _, _ => rfl | _ + 8, _, _ => rfl)
theorem LctAt.st5 (x : Int) : LctAt (w.setCell ⟨g, i * 9 + 5, none⟩ (.int .i64 x)) pf g N cap (σ.upd i { σ i with size := x }) ed ∧ Fr [g] w0 (w.setCell ⟨g, i * 9 + 5, none⟩ (.int .i64 x)) :=
  h.store hF hi (f := 5) (by decide) _ _ rfl (by intro f' h1 h2; match f', h1, h2 with | 0, _, _ => rfl | 1, _, _ => rfl | 2, _, _ => rfl | 3, _, _ => rfl | 4, _, _ => rfl | 6, _, _ => rfl | 7, _, _ => rfl | _ + 8, _, _ => rfl)
theorem LctAt.st6 (x : Nat) : LctAt (w.setCell ⟨g, i * 9 + 6, none⟩ (.int .i64 x)) pf g N cap (σ.upd i { σ i with first := x }) ed ∧ Fr [g] w0 (w.setCell ⟨g, i * 9 + 6, none⟩ (.int .i64 x)) :=
  h.store hF hi (f := 6) (by decide) _ _ rfl (by intro f' h1 h2; match f', h1, h2 with | 0, _, _ => rfl | 1, _, _ => rfl | 2, _, _ => rfl | 3, _, _ => rfl | 4, _, _ => rfl | 5, _, _ => rfl | 7, _, _ => rfl | _ + 8, _, _ => rfl)
theorem LctAt.st7 (x : Int) : LctAt (w.setCell ⟨g, i * 9 + 7, none⟩ (.int .i64 x)) pf g N cap (σ.upd i { σ i with light := x }) ed ∧ Fr [g] w0 (w.setCell ⟨g, i * 9 + 7, none⟩ (.int .i64 x)) :=
  h.store hF hi (f := 7) (by decide) _ _ rfl (by intro f' h1 h2; match f', h1, h2 with | 0, _, _ => rfl | 1, _, _ => rfl | 2, _, _ => rfl | 3, _, _ => rfl | 4, _, _ => rfl | 5, _, _ => rfl | 6, _, _ => rfl | _ + 8, _, _ => rfl)
theorem LctAt.st8 (x : Int) : LctAt (w.setCell ⟨g, i * 9 + 8, none⟩ (.int .i64 x)) pf g N cap (σ.upd i { σ i with total := x }) ed ∧ Fr [g] w0 (w.setCell ⟨g, i * 9 + 8, none⟩ (.int .i64 x)) :=
  h.store hF hi (f := 8) (by decide) _ _ rfl (by intro f' h1 h2; match f', h1, h2 with | 0, _, _ => rfl | 1, _, _ => rfl | 2, _, _ => rfl | 3, _, _ => rfl | 4, _, _ => rfl | 5, _, _ => rfl | 6, _, _ => rfl | 7, _, _ => rfl | m + 8, h1, h2 => exact absurd (show m + 8 = 8 by omega) h2)
end

set_option maxRecDepth 10000
set_option maxHeartbeats 400000

theorem idx_kids0 (x y : Value) (w : World) : (Instr.index 84 (.agg #[x, y]) (.int .i64 0)).run Tryz.prog w = .ok x w := by kernel_rfl
theorem idx_kids1 (x y : Value) (w : World) : (Instr.index 84 (.agg #[x, y]) (.int .i64 1)).run Tryz.prog w = .ok y w := by kernel_rfl

/-- The stores that refresh begins with. -/
theorem ref0_mem {w : World} {pf g N cap : Nat} {σ : Tbl} {ed : Int} (h : LctAt w pf g N cap σ ed) {i : Nat} (hi : i < N) :
    LctAt (((w.setCell ⟨g, i * 9 + 5, none⟩ (.int .i64 1)).setCell ⟨g, i * 9 + 6, none⟩ (.int .i64 i)).setCell ⟨g, i * 9 + 8, none⟩ (.int .i64 (wrap64 (1 + (σ i).light)))) pf g N cap (ref0 σ i) ed ∧
      Fr [g] w (((w.setCell ⟨g, i * 9 + 5, none⟩ (.int .i64 1)).setCell ⟨g, i * 9 + 6, none⟩ (.int .i64 i)).setCell ⟨g, i * 9 + 8, none⟩ (.int .i64 (wrap64 (1 + (σ i).light)))) := by
  obtain ⟨h1, f1⟩ := h.st5 (Fr.refl _ _) hi 1
  obtain ⟨h2, f2⟩ := h1.st6 f1 hi i
  obtain ⟨h3, f3⟩ := h2.st8 f2 hi (wrap64 (1 + (σ i).light))
  refine ⟨⟨h3.hd, h3.nodes.congr ?_, h3.ne, h3.le, h3.cap⟩, f3⟩
  intro j _
  by_cases e : j = i
  · subst e; simp [ref0, upd_same]
  · simp [ref0, upd_other e]

theorem iw64 (n : Int) : IntKind.i64.wrap n = wrap64 n := by rw [IntKind.wrap_i64]; unfold wrap64; omega

theorem refresh_w {w : World} {pf g N cap : Nat} {σ : Tbl} {ed : Int} (h : LctAt w pf g N cap σ ed) (i : Nat) (hi : i < N) (hR : InR N σ) (h0 : (σ i).k0 ≠ i) (h1 : (σ i).k1 ≠ i) :
    Calls Tryz.prog 47 #[.pointer (some ⟨pf, 0, none⟩), .int .i64 i] w fun e w' => e = .returned (.tuple #[]) ∧ LctAt w' pf g N cap (refresh σ i) ed ∧ Fr [g] w w' := by
  have c1 := h.hd.cell 1
  simp only [List.getElem?_cons_zero, List.getElem?_cons_succ] at c1
  have hN := h.le
  have a0 := h.nodes.c0 i hi
  have a1 := h.nodes.c1 i hi
  have a5 := h.nodes.c5 i hi
  have a6 := h.nodes.c6 i hi
  have a7 := h.nodes.c7 i hi
  have a8 := h.nodes.c8 i hi
  have hfz := h.nodes.frozen
  have hi2 : (i : Int) < N := by omega
  obtain ⟨hm0, hf0⟩ := ref0_mem h hi
  have HR := Lib.hid hR; clear hR
  have H0 := Lib.hid h0; clear h0
  have H1 := Lib.hid h1; clear h1
  go_enter Tryz.func47, Tryz.ntmps47
  go_wp2
  generalize hW : (((w.setCell ⟨g, i * 9 + 5, none⟩ (.int .i64 1)).setCell ⟨g, i * 9 + 6, none⟩ (.int .i64 i)).setCell ⟨g, i * 9 + 8, none⟩ (.int .i64 (wrap64 (1 + (σ i).light)))) = W0 at *
  clear hW a0 a1 a5 a6 a7 a8 hfz c1
  go_loopw [33] (fun x wr => ∃ t : Nat, t ≤ 2 ∧ x = .int .i64 t ∧ LctAt wr pf g N cap (refT σ i t) ed ∧ Fr [g] w wr) (fun x _ => 2 - (intOf x).toNat)
  case atStart => exact ⟨0, by omega, rfl, hm0, hf0⟩
  case round =>
    clear hm0 hf0
    obtain ⟨t, ht, rfl, hL, hF⟩ := hrel
    by_cases hlt : t < 2
    · have hInR := refT_inR HR.out hi H0.out H1.out t
      obtain ⟨k, hix, hkN, hki, hnx⟩ : ∃ k : Nat, (∀ W : World, (Instr.index 84 (.agg #[.int .i64 (σ i).k0, .int .i64 (σ i).k1]) (.int .i64 t)).run Tryz.prog W = .ok (.int .i64 k) W) ∧ k < N ∧ k ≠ i ∧ refT σ i (t + 1) = refKid (refT σ i t) i k := by
        rcases (show t = 0 ∨ t = 1 by omega) with rfl | rfl
        · exact ⟨(σ i).k0, fun W => idx_kids0 _ _ W, (HR.out i hi).1, H0.out, rfl⟩
        · exact ⟨(σ i).k1, fun W => idx_kids1 _ _ W, (HR.out i hi).2.1, H1.out, rfl⟩
      have Hnx := Lib.hid hnx; clear hnx
      have HIn := Lib.hid hInR; clear hInR
      generalize refT σ i t = τ at *
      by_cases hk0 : k = 0
      · subst hk0
        go_wp2
        go_roundw
        case rel => exact ⟨t + 1, by omega, by go_num, by rw [Hnx.out]; exact hL, hF⟩
        case measure => simp [intOf]; omega
      · have hb0 : ((k : Int) == 0) = false := beq_eq_false_iff_ne.2 (by omega)
        have hk2 : (k : Int) < N := by omega
        have c1 := hL.hd.cell 1
        simp only [List.getElem?_cons_zero, List.getElem?_cons_succ] at c1
        have a5 := hL.nodes.c5 i hi
        have b5 := hL.nodes.c5 k hkN
        have hfz := hL.nodes.frozen
        go_wp2
        refine region_one 11 (fun w' => LctAt w' pf g N cap (τ.upd i { τ i with size := wrap64 ((τ i).size + (τ k).size) }) ed ∧ Fr [g] w w') (by kernel_rfl) (by kernel_rfl) (by kernel_rfl) ?_
        iterate 11 (refine gWalk_pre (by decide) (fun K hK => ?_); go_simp; refine hK _ ?_; clear hK K)
        refine gWalk_write rfl undef (fun w' hw' => ?_) ?_
        · obtain ⟨nq, rfl⟩ := hw'
          go_simp
          rw [iw64]
          exact (hL.eqv (Eqv.drewN wr nq)).st5 (hF.drewN nq) hi _
        refine gWalk_nil ?_
        rintro w2 ⟨hL2, hF2⟩
        have hk1 : τ.upd i { τ i with size := wrap64 ((τ i).size + (τ k).size) } k = τ k := upd_other hki
        have c1' := hL2.hd.cell 1
        simp only [List.getElem?_cons_zero, List.getElem?_cons_succ] at c1'
        have a8 := hL2.nodes.c8 i hi
        have b8 := hL2.nodes.c8 k hkN
        rw [hk1] at b8
        rw [upd_same] at a8
        have hfz2 := hL2.nodes.frozen
        clear a5 b5 hfz c1 hk1
        go_wp2
        refine region_one 11 (fun w' => LctAt w' pf g N cap ((τ.upd i { τ i with size := wrap64 ((τ i).size + (τ k).size) }).upd i { τ i with size := wrap64 ((τ i).size + (τ k).size), total := wrap64 ((τ i).total + (τ k).total) }) ed ∧ Fr [g] w w') (by kernel_rfl) (by kernel_rfl) (by kernel_rfl) ?_
        iterate 11 (refine gWalk_pre (by decide) (fun K hK => ?_); go_simp; refine hK _ ?_; clear hK K)
        refine gWalk_write rfl undef (fun w' hw' => ?_) ?_
        · obtain ⟨nq, rfl⟩ := hw'
          go_simp
          have := (hL2.eqv (Eqv.drewN w2 nq)).st8 (hF2.drewN nq) hi (wrap64 ((τ i).total + (τ k).total))
          rw [upd_same] at this
          rw [iw64]
          exact this
        refine gWalk_nil ?_
        rintro w3 ⟨hL3, hF3⟩
        clear a8 b8 hfz2 c1' hL hL2 hF hF2
        have hns : refKid τ i k = if beforeB ((τ.upd i { τ i with size := wrap64 ((τ i).size + (τ k).size) }).upd i { τ i with size := wrap64 ((τ i).size + (τ k).size), total := wrap64 ((τ i).total + (τ k).total) }) (τ k).first (τ i).first then ((τ.upd i { τ i with size := wrap64 ((τ i).size + (τ k).size) }).upd i { τ i with size := wrap64 ((τ i).size + (τ k).size), total := wrap64 ((τ i).total + (τ k).total) }).upd i { τ i with size := wrap64 ((τ i).size + (τ k).size), total := wrap64 ((τ i).total + (τ k).total), first := (τ k).first } else ((τ.upd i { τ i with size := wrap64 ((τ i).size + (τ k).size) }).upd i { τ i with size := wrap64 ((τ i).size + (τ k).size), total := wrap64 ((τ i).total + (τ k).total) }) := by
          unfold refKid
          rw [if_neg hk0]
          simp only [upd_same, upd_other hki]
        have Hns := Lib.hid hns; clear hns
        have c6 := hL3.nodes.c6 i hi
        have d6 := hL3.nodes.c6 k hkN
        have hk1 : ((τ.upd i { τ i with size := wrap64 ((τ i).size + (τ k).size) }).upd i { τ i with size := wrap64 ((τ i).size + (τ k).size), total := wrap64 ((τ i).total + (τ k).total) }) k = τ k := by rw [upd_other hki, upd_other hki]
        have hi1 : ((τ.upd i { τ i with size := wrap64 ((τ i).size + (τ k).size) }).upd i { τ i with size := wrap64 ((τ i).size + (τ k).size), total := wrap64 ((τ i).total + (τ k).total) }) i = { τ i with size := wrap64 ((τ i).size + (τ k).size), total := wrap64 ((τ i).total + (τ k).total) } := upd_same _ _ _
        rw [hi1] at c6
        rw [hk1] at d6
        have hst := fun nq : Nat => (hL3.eqv (Eqv.drewN w3 nq)).st6 (hF3.drewN nq) hi (τ k).first
        rw [hi1] at hst
        generalize ((τ.upd i { τ i with size := wrap64 ((τ i).size + (τ k).size) }).upd i { τ i with size := wrap64 ((τ i).size + (τ k).size), total := wrap64 ((τ i).total + (τ k).total) }) = τ2 at *
        have hbf := fun W (hW : LctAt W pf g N cap τ2 ed) => before_w hW (τ k).first (τ i).first (HIn.out k hkN).2.2.2 (HIn.out i hi).2.2.2
        have Hbf := Lib.hid hbf; clear hbf hk1 hi1
        have hfz3 := hL3.nodes.frozen
        have Hst := Lib.hid hst; clear hst
        dsimp only at c6
        cases hB : beforeB τ2 (τ k).first (τ i).first with
        | true =>
          rw [hB] at Hbf Hns
          clear hB
          go_wp2
          go_quiet ((go_at_call 70; exact Calls.quiet_of (Hbf.out _ (hL3.eqv (Eqv.drewN _ _)))))
          go_wp2
          exact ⟨⟨t + 1, by omega, by go_num, by rw [Hnx.out, Hns.out, if_pos trivial]; exact (Hst.out nq).1, (Hst.out nq).2⟩, by simp [intOf]; omega⟩
        | false =>
          rw [hB] at Hbf Hns
          clear hB
          go_wp2
          go_quiet ((go_at_call 70; exact Calls.quiet_of (Hbf.out _ (hL3.eqv (Eqv.drewN _ _)))))
          go_wp2
          exact ⟨⟨t + 1, by omega, by go_num, by rw [Hnx.out, Hns.out, if_neg (by decide)]; exact hL3.eqv (Eqv.drewN w3 nq), hF3.drewN nq⟩, by simp [intOf]; omega⟩
    · obtain rfl : t = 2 := by omega
      go_wp2
      go_end0
      exact ⟨rfl, hL, hF⟩

end Go.Proofs.YthkkelkgfkehlaaGreat

/- lct: push. -/
namespace Go.Proofs.YthkkelkgfkehlaaGreat
open Go.RowKit

def pushK (σ : Tbl) (k : Nat) : Tbl := if k = 0 then σ else σ.upd k { σ k with flip := !(σ k).flip }
def push0 (σ : Tbl) (i : Nat) : Tbl := σ.upd i { σ i with flip := false, k0 := (σ i).k1, k1 := (σ i).k0 }
def pushT (σ : Tbl) (i : Nat) : Nat → Tbl
  | 0 => push0 σ i
  | 1 => pushK (push0 σ i) (σ i).k1
  | _ => pushK (pushK (push0 σ i) (σ i).k1) (σ i).k0
/-- A pending reversal is carried out, and passed on. -/
def push (σ : Tbl) (i : Nat) : Tbl := if (σ i).flip then pushT σ i 2 else σ

set_option maxRecDepth 10000
set_option maxHeartbeats 400000

theorem LctAt.congr {w : World} {pf g N cap : Nat} {σ τ : Tbl} {ed : Int} (h : LctAt w pf g N cap σ ed) (e : ∀ i, σ i = τ i) : LctAt w pf g N cap τ ed := by
  have : σ = τ := funext e
  rw [← this]; exact h

theorem push_w {w : World} {pf g N cap : Nat} {σ : Tbl} {ed : Int} (h : LctAt w pf g N cap σ ed) (i : Nat) (hi : i < N) (hR : InR N σ) :
    Calls Tryz.prog 91 #[.pointer (some ⟨pf, 0, none⟩), .int .i64 i] w fun e w' => e = .returned (.tuple #[]) ∧ LctAt w' pf g N cap (push σ i) ed ∧ Fr [g] w w' := by
  have c1 := h.hd.cell 1
  simp only [List.getElem?_cons_zero, List.getElem?_cons_succ] at c1
  have hN := h.le
  have a3 := h.nodes.c3 i hi
  have hfz := h.nodes.frozen
  have hi2 : (i : Int) < N := by omega
  have HR := Lib.hid hR; clear hR
  by_cases hfl : (σ i).flip = true
  · have hp : push σ i = pushT σ i 2 := by unfold push; rw [if_pos hfl]
    have Hp := Lib.hid hp; clear hp
    rw [hfl] at a3
    have Hfl := Lib.hid hfl; clear hfl
    obtain ⟨h1, f1⟩ := h.st3 (Fr.refl _ _) hi false
    go_enter Tryz.func91, Tryz.ntmps91
    go_wp2
    generalize hW : w.setCell ⟨g, i * 9 + 3, none⟩ (.bool false) = W0 at *
    clear hW a3 c1 hfz
    have a0 := h1.nodes.c0 i hi
    have a1 := h1.nodes.c1 i hi
    rw [upd_same] at a0 a1
    dsimp only at a0 a1
    have hfz := h1.nodes.frozen
    have c1 := h1.hd.cell 1
    simp only [List.getElem?_cons_zero, List.getElem?_cons_succ] at c1
    refine region_many [15, 19] [1] (fun q w' => match q with
      | 0 => ∃ n, w' = W0.drewN n
      | 1 => LctAt w' pf g N cap ((σ.upd i { σ i with flip := false }).upd i { σ i with flip := false, k0 := (σ i).k1 }) ed ∧ Fr [g] w w'
      | _ => LctAt w' pf g N cap (push0 σ i) ed ∧ Fr [g] w w') (fun w' => Iff.rfl) (by kernel_rfl) (by kernel_rfl) (by kernel_rfl) ?_
    refine mWalk_pre (by decide) (fun K hK => ?_); go_simp; refine hK _ ?_; clear hK K
    refine mWalk_post (by decide) (fun K hK => ?_); go_simp; refine hK _ ?_; clear hK K
    iterate 13 (refine mWalk_pre (by decide) (fun K hK => ?_); go_simp; refine hK _ ?_; clear hK K)
    refine mWalk_write (q := 0) (by decide) rfl undef (fun w' hw' => ?_) ?_
    · obtain ⟨nq, rfl⟩ := hw'
      go_simp
      have := (h1.eqv (Eqv.drewN W0 nq)).st0 (f1.drewN nq) hi (σ i).k1
      rw [upd_same] at this
      exact this
    iterate 3 (refine mWalk_post (by decide) (fun K hK => ?_); go_simp; refine hK _ ?_; clear hK K)
    refine mWalk_write (q := 1) (by decide) rfl undef (fun w' hw' => ?_) ?_
    · obtain ⟨hA, hB⟩ := hw'
      have hfz' := hA.nodes.frozen
      have b1 := hA.nodes.c1 i hi
      go_simp
      have := hA.st1 hB hi (σ i).k0
      rw [upd_same] at this
      refine ⟨this.1.congr ?_, this.2⟩
      intro j
      by_cases e : j = i
      · subst e; simp [push0, upd_same]
      · simp [push0, upd_other e]
    refine mWalk_nil ?_
    rintro w2 ⟨h2, f2⟩
    clear a0 a1 hfz c1 h1 f1
    have a0 := h2.nodes.c0 i hi
    have a1 := h2.nodes.c1 i hi
    simp only [push0, upd_same] at a0 a1
    go_wp2
    clear a0 a1
    go_loopw [43] (fun x wr => ∃ t : Nat, t ≤ 2 ∧ x = .int .i64 t ∧ LctAt wr pf g N cap (pushT σ i t) ed ∧ Fr [g] w wr) (fun x _ => 2 - (intOf x).toNat)
    case atStart => exact ⟨0, by omega, rfl, h2, f2⟩
    case round =>
      clear h2 f2
      obtain ⟨t, ht, rfl, hL, hF⟩ := hrel
      by_cases hlt : t < 2
      · obtain ⟨k, hix, hkN, hnx⟩ : ∃ k : Nat, (∀ W : World, (Instr.index 84 (.agg #[.int .i64 (σ i).k1, .int .i64 (σ i).k0]) (.int .i64 t)).run Tryz.prog W = .ok (.int .i64 k) W) ∧ k < N ∧ pushT σ i (t + 1) = pushK (pushT σ i t) k := by
          rcases (show t = 0 ∨ t = 1 by omega) with rfl | rfl
          · exact ⟨(σ i).k1, fun W => idx_kids0 _ _ W, (HR.out i hi).2.1, rfl⟩
          · exact ⟨(σ i).k0, fun W => idx_kids1 _ _ W, (HR.out i hi).1, rfl⟩
        have Hnx := Lib.hid hnx; clear hnx
        generalize pushT σ i t = τ at *
        by_cases hk0 : k = 0
        · subst hk0
          go_wp2
          exact ⟨⟨t + 1, by omega, by go_num, by rw [Hnx.out]; exact hL, hF⟩, by simp [intOf]; omega⟩
        · have hb0 : ((k : Int) == 0) = false := beq_eq_false_iff_ne.2 (by omega)
          have hk2 : (k : Int) < N := by omega
          have c1 := hL.hd.cell 1
          simp only [List.getElem?_cons_zero, List.getElem?_cons_succ] at c1
          have a3 := hL.nodes.c3 k hkN
          have hfz := hL.nodes.frozen
          go_wp2
          refine region_one 16 (fun w' => LctAt w' pf g N cap (τ.upd k { τ k with flip := !(τ k).flip }) ed ∧ Fr [g] w w') (by kernel_rfl) (by kernel_rfl) (by kernel_rfl) ?_
          iterate 16 (refine gWalk_pre (by decide) (fun K hK => ?_); go_simp; refine hK _ ?_; clear hK K)
          refine gWalk_write rfl undef (fun w' hw' => ?_) ?_
          · obtain ⟨nq, rfl⟩ := hw'
            go_simp
            exact (hL.eqv (Eqv.drewN wr nq)).st3 (hF.drewN nq) hkN _
          refine gWalk_nil ?_
          rintro w3 ⟨h3, f3⟩
          go_wp2
          exact ⟨⟨t + 1, by omega, by go_num, by rw [Hnx.out]; unfold pushK; rw [if_neg hk0]; exact h3, f3⟩, by simp [intOf]; omega⟩
      · obtain rfl : t = 2 := by omega
        go_wp2
        go_end0
        exact ⟨rfl, by rw [Hp.out]; exact hL, hF⟩
  · have hfl : (σ i).flip = false := by simpa using hfl
    have hp : push σ i = σ := by unfold push; rw [if_neg (by simp [hfl])]
    rw [hp]; clear hp
    rw [hfl] at a3
    go_enter Tryz.func91, Tryz.ntmps91
    go_wp2
    refine bodyPost_ret (results_none rfl _ _ _) rfl ?_
    exact ⟨rfl, h, Fr.refl _ _⟩

end Go.Proofs.YthkkelkgfkehlaaGreat

namespace Go.Proofs.YthkkelkgfkehlaaGreat
open Go.RowKit

/-- The side of a node, and whether it has a parent in its splay tree. -/
def sideOf (σ : Tbl) (i : Nat) : Nat × Bool :=
  if (σ i).up = 0 then (0, false) else if (σ (σ i).up).k0 = i then (0, true) else if (σ (σ i).up).k1 = i then (1, true) else (0, false)
def setKid (n : Nd) (s k : Nat) : Nd := if s = 0 then { n with k0 := k } else { n with k1 := k }
def kid (n : Nd) (s : Nat) : Nat := if s = 0 then n.k0 else n.k1
def hang (σ : Tbl) (i s k : Nat) : Tbl :=
  let σ1 := σ.upd i (setKid (σ i) s k)
  if k = 0 then σ1 else σ1.upd k { σ1 k with up := i }

set_option maxRecDepth 10000
set_option maxHeartbeats 400000

theorem side_w {w : World} {pf g N cap : Nat} {σ : Tbl} {ed : Int} (h : LctAt w pf g N cap σ ed) (i : Nat) (hi : i < N) (hR : InR N σ) :
    Calls Tryz.prog 89 #[.pointer (some ⟨pf, 0, none⟩), .int .i64 i] w fun e w' => e = .returned (.tuple #[.int .i64 (sideOf σ i).1, .bool (sideOf σ i).2]) ∧ w' = w := by
  have c1 := h.hd.cell 1
  simp only [List.getElem?_cons_zero, List.getElem?_cons_succ] at c1
  have hN := h.le
  have a2 := h.nodes.c2 i hi
  have hp := (hR i hi).2.2.1
  have hi2 : (i : Int) < N := by omega
  have HR := Lib.hid hR; clear hR
  have hs : sideOf σ i = if (σ i).up = 0 then (0, false) else if (σ (σ i).up).k0 = i then (0, true) else if (σ (σ i).up).k1 = i then (1, true) else (0, false) := rfl
  generalize hpp : (σ i).up = p at *
  have Hs := Lib.hid hs; clear hs
  by_cases hp0 : p = 0
  · subst hp0
    rw [Hs.out, if_pos rfl]
    clear Hs
    go_enter Tryz.func89, Tryz.ntmps89
    go_wp2
    go_ret2
    exact ⟨rfl, rfl⟩
  · have hp2 : (p : Int) < N := by omega
    have hb0 : ((p : Int) == 0) = false := beq_eq_false_iff_ne.2 (by omega)
    have b0 := h.nodes.c0 p hp
    have b1 := h.nodes.c1 p hp
    have Hp0 := Lib.hid hp0; clear hp0
    go_enter Tryz.func89, Tryz.ntmps89
    go_wp2
    clear a2 b0 b1 c1
    go_loopw [27] (fun x wr => ∃ t : Nat, t ≤ 2 ∧ x = .int .i64 t ∧ wr = w ∧ (0 < t → (σ p).k0 ≠ i) ∧ (1 < t → (σ p).k1 ≠ i)) (fun x _ => 2 - (intOf x).toNat)
    case atStart => exact ⟨0, by omega, rfl, rfl, by omega, by omega⟩
    case round =>
      obtain ⟨t, ht, rfl, rfl, he0, he1⟩ := hrel
      by_cases hlt : t < 2
      · obtain ⟨k, hix, hkN, hy, hn0, hn1⟩ : ∃ k : Nat, (∀ W : World, (Instr.index 84 (.agg #[.int .i64 (σ p).k0, .int .i64 (σ p).k1]) (.int .i64 t)).run Tryz.prog W = .ok (.int .i64 k) W) ∧ k < N ∧ (k = i → sideOf σ i = (t, true)) ∧ (k ≠ i → 0 < t + 1 → (σ p).k0 ≠ i) ∧ (k ≠ i → 1 < t + 1 → (σ p).k1 ≠ i) := by
          rcases (show t = 0 ∨ t = 1 by omega) with rfl | rfl
          · exact ⟨(σ p).k0, fun W => idx_kids0 _ _ W, (HR.out p hp).1, fun e => by rw [Hs.out, if_neg Hp0.out, if_pos e], fun e _ => e, fun _ e => by omega⟩
          · exact ⟨(σ p).k1, fun W => idx_kids1 _ _ W, (HR.out p hp).2.1, fun e => by rw [Hs.out, if_neg Hp0.out, if_neg (he0 (by decide)), if_pos e], fun _ _ => he0 (by decide), fun e _ => e⟩
        have Hy := Lib.hid hy; clear hy
        have Hn0 := Lib.hid hn0; clear hn0
        have Hn1 := Lib.hid hn1; clear hn1
        clear he0 he1
        by_cases hki : k = i
        · have hb : ((k : Int) == (i : Int)) = true := beq_iff_eq.2 (by omega)
          go_wp2
          go_ret2
          rw [Hy.out hki]
          exact ⟨rfl, rfl⟩
        · have hb : ((k : Int) == (i : Int)) = false := beq_eq_false_iff_ne.2 (by omega)
          go_wp2
          exact ⟨⟨t + 1, by omega, by go_num, trivial, Hn0.out hki, Hn1.out hki⟩, by simp [intOf]; omega⟩
      · obtain rfl : t = 2 := by omega
        have hs : sideOf σ i = (0, false) := by rw [Hs.out, if_neg Hp0.out, if_neg (he0 (by decide)), if_neg (he1 (by decide))]
        have Hs' := Lib.hid hs; clear hs
        clear Hs he0 he1
        go_wp2
        go_ret2
        rw [Hs'.out]
        exact ⟨rfl, rfl⟩

theorem hang_w {w : World} {pf g N cap : Nat} {σ : Tbl} {ed : Int} (h : LctAt w pf g N cap σ ed) (i s k : Nat) (hi : i < N) (hs : s < 2) (hk : k < N) :
    Calls Tryz.prog 101 #[.pointer (some ⟨pf, 0, none⟩), .int .i64 i, .int .i64 s, .int .i64 k] w fun e w' => e = .returned (.tuple #[]) ∧ LctAt w' pf g N cap (hang σ i s k) ed ∧ Fr [g] w w' := by
  have c1 := h.hd.cell 1
  simp only [List.getElem?_cons_zero, List.getElem?_cons_succ] at c1
  have hN := h.le
  have hfz := h.nodes.frozen
  have hi2 : (i : Int) < N := by omega
  have hk2 : (k : Int) < N := by omega
  have key : ∀ W1 : World, LctAt W1 pf g N cap (σ.upd i (setKid (σ i) s k)) ed ∧ Fr [g] w W1 → (k = 0 → LctAt W1 pf g N cap (hang σ i s k) ed ∧ Fr [g] w W1) ∧ (k ≠ 0 → LctAt (W1.setCell ⟨g, k * 9 + 2, none⟩ (.int .i64 i)) pf g N cap (hang σ i s k) ed ∧ Fr [g] w (W1.setCell ⟨g, k * 9 + 2, none⟩ (.int .i64 i))) := by
    intro W1 ⟨h1, f1⟩
    constructor
    · intro e; unfold hang; rw [if_pos e]; exact ⟨h1, f1⟩
    · intro e; unfold hang; rw [if_neg e]; exact h1.st2 f1 hk i
  have Key := Lib.hid key; clear key
  rcases (show s = 0 ∨ s = 1 by omega) with rfl | rfl
  · obtain ⟨h1, f1⟩ := h.st0 (Fr.refl _ _) hi k
    have a0 := h.nodes.c0 i hi
    have K := Lib.hid (Key.out _ ⟨h1, f1⟩)
    clear Key f1
    by_cases hk0 : k = 0
    · have r := K.out.1 hk0
      clear K h1
      subst hk0
      go_enter Tryz.func101, Tryz.ntmps101
      go_wp2
      go_end0
      exact ⟨rfl, r⟩
    · have hb0 : ((k : Int) == 0) = false := beq_eq_false_iff_ne.2 (by omega)
      have hfz1 := h1.nodes.frozen
      have d1 := h1.hd.cell 1
      simp only [List.getElem?_cons_zero, List.getElem?_cons_succ] at d1
      have b2 := h1.nodes.c2 k hk
      have r := K.out.2 hk0
      clear K h1
      go_enter Tryz.func101, Tryz.ntmps101
      go_wp2
      go_end0
      exact ⟨rfl, r⟩
  · obtain ⟨h1, f1⟩ := h.st1 (Fr.refl _ _) hi k
    have a0 := h.nodes.c1 i hi
    have K := Lib.hid (Key.out _ ⟨h1, f1⟩)
    clear Key f1
    by_cases hk0 : k = 0
    · have r := K.out.1 hk0
      clear K h1
      subst hk0
      go_enter Tryz.func101, Tryz.ntmps101
      go_wp2
      go_end0
      exact ⟨rfl, r⟩
    · have hb0 : ((k : Int) == 0) = false := beq_eq_false_iff_ne.2 (by omega)
      have hfz1 := h1.nodes.frozen
      have d1 := h1.hd.cell 1
      simp only [List.getElem?_cons_zero, List.getElem?_cons_succ] at d1
      have b2 := h1.nodes.c2 k hk
      have r := K.out.2 hk0
      clear K h1
      go_enter Tryz.func101, Tryz.ntmps101
      go_wp2
      go_end0
      exact ⟨rfl, r⟩

end Go.Proofs.YthkkelkgfkehlaaGreat
