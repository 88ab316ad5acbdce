/- A region that draws its order, whose operations change the world at several places, which wait for each other in a row: one walk in the order of the text serves every order. -/
import Derived.Test.YtoppjjgecgbbkaaOneWrite
namespace Go.Proofs.Ytoppjjgecgbbkaa
open Go.RowKit

/-- The operations ahead of all of cs (other than ps) read; number cs[q] leads from the class C q to C (q + 1); all others look at no world. -/
def manyG (P : Program) (cs ps : List Nat) (C : Nat → World → Prop) (i : Nat) (s : Sem Next) (v : Value) : Prop :=
  if i < cs.headD 0 ∧ i ∉ ps then ∀ w, C 0 w → Oper.quietUpon P (C 0) w v (s.run P w)
  else if i ∈ cs then ∀ w, C (cs.idxOf i) w → writeUpon P (C (cs.idxOf i + 1)) v (s.run P w) else ∀ w, pureUpon w v (s.run P w)

section
variable {P : Program} {ops : Array Oper} {md : Region.Mode} {C : Nat → World → Prop} {cs ps : List Nat}

/-- Each of cs waits for the one ahead of it, and the first one for all that stands ahead of it. -/
def rowB (md : Region.Mode) (ops : Array Oper) : List Nat → Bool
  | [] => true
  | [c] => decide (c < ops.size)
  | c :: d :: r => decide (c < ops.size) && decide (c < d) && (marks md ops (d + 1) ((Array.replicate ops.size false).setIfInBounds d true)).getD c false && rowB md ops (d :: r)

theorem waits_listed {L : Array Bool} (hL : Shut md ops L) {c d : Nat} (hB : (marks md ops (d + 1) ((Array.replicate ops.size false).setIfInBounds d true)).getD c false = true) (hd : L.getD d false = true) : L.getD c false = true := by
  refine marks_sub hL (d + 1) _ ?_ c hB
  intro j hj
  by_cases e : d = j
  · rw [← e]; exact hd
  · rw [getD_set_ne false e, rep_false] at hj
    cases hj

/-- How many of cs are listed. -/
def cnt (cs : List Nat) (L : Array Bool) : Nat := cs.countP (fun c => L.getD c false)

theorem row_lt : ∀ {cs : List Nat}, rowB md ops cs = true → ∀ c ∈ cs, c < ops.size
  | [], _, c, hc => by cases hc
  | [d], h, c, hc => by simp [rowB] at h; simp at hc; omega
  | d :: e :: r, h, c, hc => by
    simp only [rowB, Bool.and_eq_true, decide_eq_true_eq] at h
    rcases List.mem_cons.1 hc with rfl | hc
    · exact h.1.1.1
    · exact row_lt h.2 c hc
theorem row_sorted : ∀ {cs : List Nat}, rowB md ops cs = true → cs.Pairwise (· < ·)
  | [], _ => .nil
  | [d], _ => by simp
  | d :: e :: r, h => by
    simp only [rowB, Bool.and_eq_true, decide_eq_true_eq] at h
    have ih := row_sorted h.2
    refine List.Pairwise.cons (fun x hx => ?_) ih
    rcases List.mem_cons.1 hx with rfl | hx
    · exact h.1.1.2
    · exact Nat.lt_trans h.1.1.2 (List.rel_of_pairwise_cons ih hx)
/-- What is listed of a row is its beginning. -/
theorem row_prefix {L : Array Bool} (hL : Shut md ops L) : ∀ {cs : List Nat}, rowB md ops cs = true → ∀ q c, cs[q]? = some c → (L.getD c false = true ↔ q < cnt cs L)
  | [], _, q, c, h => by simp at h
  | [d], _, q, c, h => by
    cases q with
    | succ q => simp at h
    | zero =>
      simp at h; subst h
      simp only [cnt, List.countP_cons, List.countP_nil]
      by_cases hd : L.getD d false = true <;> simp [hd]
  | d :: e :: r, hB, q, c, h => by
    simp only [rowB, Bool.and_eq_true] at hB
    have ih := row_prefix hL hB.2
    by_cases hd : L.getD d false = true
    · have hcnt : cnt (d :: e :: r) L = cnt (e :: r) L + 1 := by simp only [cnt, List.countP_cons, hd]; simp
      cases q with
      | zero => simp at h; subst h; rw [hcnt]; simp [hd]
      | succ q =>
        have := ih q c (by simpa using h)
        rw [hcnt, this]; omega
    · have he : ¬ L.getD e false = true := fun he => hd (waits_listed hL hB.1.2 he)
      have h0 : cnt (e :: r) L = 0 := by
        have := ih 0 e (by simp)
        apply Classical.byContradiction
        intro hne
        exact he (this.2 (by omega))
      have hcnt : cnt (d :: e :: r) L = 0 := by
        have : cnt (d :: e :: r) L = cnt (e :: r) L := by simp only [cnt, List.countP_cons]; simp [hd]
        rw [this, h0]
      rw [hcnt]
      cases q with
      | zero => simp at h; subst h; simp [hd]
      | succ q =>
        have := ih q c (by simpa using h)
        rw [h0] at this
        rw [this]; omega

theorem cnt_set {L : Array Bool} {i : Nat} (hs : i < L.size) (hl : L.getD i false = false) (hnd : cs.Nodup) (hi : i ∈ cs) : cnt cs (L.setIfInBounds i true) = cnt cs L + 1 := by
  unfold cnt
  induction cs with
  | nil => cases hi
  | cons d r ih =>
    simp only [List.nodup_cons] at hnd
    simp only [List.countP_cons]
    by_cases e : d = i
    · subst e
      have h1 : r.countP (fun c => (L.setIfInBounds d true).getD c false) = r.countP (fun c => L.getD c false) := by
        apply List.countP_congr
        intro c hc
        rw [getD_set_ne false (show d ≠ c by rintro rfl; exact hnd.1 hc)]
      rw [h1]
      have h2 : (L.setIfInBounds d true).getD d false = true := by simp [hs]
      rw [h2, hl]; simp
    · rw [ih hnd.2 ((List.mem_cons.1 hi).resolve_left (fun h => e h.symm)), getD_set_ne false (fun h => e h.symm)]
      omega
theorem cnt_other {L : Array Bool} {i : Nat} (hi : i ∉ cs) : cnt cs (L.setIfInBounds i true) = cnt cs L := by
  unfold cnt
  apply List.countP_congr
  intro c hc
  rw [getD_set_ne false (show i ≠ c by rintro rfl; exact hi hc)]

def allBefore' (md : Region.Mode) (ops : Array Oper) (c : Nat) (ps : List Nat) : Bool := (List.range c).all fun i => ps.contains i || (marks md ops (c + 1) ((Array.replicate ops.size false).setIfInBounds c true)).getD i false

theorem before_listed' {L : Array Bool} {c : Nat} (hL : Shut md ops L) (hB : allBefore' md ops c ps = true) (hc : L.getD c false = true) : ∀ i, i < c ∧ i ∉ ps → L.getD i false = true := by
  intro i hi
  have h1 := List.all_eq_true.1 hB i (by simpa using hi.1)
  simp only [Bool.or_eq_true, List.contains_iff_mem] at h1
  refine marks_sub hL (c + 1) _ ?_ i (h1.resolve_left hi.2)
  intro j hj
  by_cases e : c = j
  · rw [← e]; exact hc
  · rw [getD_set_ne false e, rep_false] at hj
    cases hj

theorem any_of_gMany (hrow : rowB md ops cs = true) (hne : cs ≠ []) (hb : edgesBack md ops = true) (hbf : allBefore' md ops (cs.headD 0) ps = true) (hu : ∀ c ∈ cs, ∀ o, ops[c]? = some o → o.guard = none) {Q : Act → Prop} {Q' : Exit → Act → World → Prop} (hQ : ∀ a w, C cs.length w → Q a → Q' .normal a w) : ∀ (fuel : Nat) (listed : Array Bool) (a : Act) (w : World), listed.size = ops.size →
    Shut md ops listed → C (cnt cs listed) w → gAny (manyG P cs ps C) md ops Q fuel listed a → wpAny P md ops Q' fuel listed a w := by
  have hend : ∀ listed : Array Bool, listed.size = ops.size → Region.ready md ops listed = [] → cnt cs listed = cs.length := by
    intro listed hs h0
    unfold cnt
    rw [List.countP_eq_length]
    intro c hc
    exact ready_nil hs hb h0 c (row_lt hrow c hc)
  have hnd : cs.Nodup := (row_sorted hrow).imp (fun h => Nat.ne_of_lt h)
  intro fuel
  induction fuel with
  | zero =>
    intro listed a w hs _ hp h
    exact ⟨h.1, hQ _ _ (by rw [hend listed hs h.1] at hp; exact hp) h.2⟩
  | succ fuel ih =>
    intro listed a w hs hsh hp h
    refine ⟨fun h0 => hQ _ _ (by rw [hend listed hs h0] at hp; exact hp) (h.1 h0), fun i hi => ?_⟩
    have hg := h.2 i hi
    obtain ⟨hun, oi, hoi, _⟩ := mem_ready.1 hi
    have hil : i < ops.size := (Array.getElem?_eq_some_iff.1 hoi).1
    have hs' : (listed.setIfInBounds i true).size = ops.size := by simp [hs]
    have hl0 : listed.getD i false = false := by
      simp [hs, hil] at hun ⊢; exact hun
    have next : ∀ a' w', C (cnt cs (listed.setIfInBounds i true)) w' → gAny (manyG P cs ps C) md ops Q fuel (listed.setIfInBounds i true) a' → wpAny P md ops Q' fuel (listed.setIfInBounds i true) a' w' :=
      fun a' w' hp' hg' => ih _ a' w' hs' (hsh.set hi) hp' hg'
    unfold gOp at hg
    unfold wpOp
    simp only [hoi] at hg ⊢
    by_cases hmem : i ∈ cs
    · have hcs := cnt_set (L := listed) (by omega) hl0 hnd hmem
      have hhead : ¬ i < cs.headD 0 := by
        cases hcc : cs with
        | nil => exact absurd hcc hne
        | cons d r =>
          rw [hcc] at hmem
          have := row_sorted hrow
          rw [hcc] at this
          rcases List.mem_cons.1 hmem with rfl | hm
          · simp
          · have := List.rel_of_pairwise_cons this hm; simp; omega
      have hidx : cs.idxOf i = cnt cs listed := by
        have hlt := List.idxOf_lt_length_of_mem hmem
        have hget : cs[cs.idxOf i]? = some i := by rw [List.getElem?_eq_getElem hlt, List.getElem_idxOf]
        have h1 := row_prefix hsh hrow _ _ hget
        rw [hl0] at h1
        have hge : cnt cs listed ≤ cs.idxOf i := by
          apply Classical.byContradiction
          intro hx
          have := h1.2 (by omega)
          cases this
        have h2 := row_prefix (hsh.set hi) hrow _ _ hget
        rw [hcs] at h2
        have h3 : (listed.setIfInBounds i true).getD i false = true := by simp [hs, hil]
        have := h2.1 h3
        omega
      have hw : Region.wanted oi (yielded ops a.tmps) = true := by simp [Region.wanted, hu i hmem oi hoi]
      rw [if_pos hw] at hg ⊢
      obtain ⟨v, hv, hk⟩ := hg
      unfold manyG at hv
      rw [if_neg (fun hx => hhead hx.1), if_pos hmem, hidx] at hv
      exact .inl (write_upon (fun w' hc' => next _ w' (by rw [hcs]; exact hc') hk) (hv w hp))
    · have hcs := cnt_other (L := listed) hmem
      by_cases hw : Region.wanted oi (yielded ops a.tmps) = true
      · rw [if_pos hw] at hg ⊢
        obtain ⟨v, hv, hk⟩ := hg
        unfold manyG at hv
        left
        by_cases hlt : i < cs.headD 0 ∧ i ∉ ps
        · have h0 : cnt cs listed = 0 := by
            cases hcc : cs with
            | nil => exact absurd hcc hne
            | cons d r =>
              apply Classical.byContradiction
              intro hx
              have h1 := (row_prefix hsh hrow 0 d (by rw [hcc]; rfl)).2 (by rw [hcc]; omega)
              rw [hcc] at hlt hbf
              rw [before_listed' hsh hbf h1 i hlt] at hl0
              cases hl0
          rw [if_pos hlt] at hv
          rw [h0] at hp
          exact quiet_upon hp (fun w' hc' => next _ w' (by rw [hcs, h0]; exact hc') hk) (hv w hp)
        · rw [if_neg hlt, if_neg hmem] at hv
          exact pure_upon (next _ w (by rw [hcs]; exact hp) hk) (hv w)
      · rw [if_neg hw] at hg ⊢
        exact next _ w (by rw [hcs]; exact hp) hg

/-- The law. -/
theorem region_many (cs ps : List Nat) {id : Nat} {Q : Exit → Act → World → Prop} {a : Act} {w : World} {l : List Oper} (C : Nat → World → Prop) (hC : ∀ w', C 0 w' ↔ ∃ n, w' = w.drewN n) (hm : P.follows .mixedOrders = true) (hB : Region.lexB .any l.toArray = true)
    (hk : (((edgesBack .any l.toArray && allBefore' .any l.toArray (cs.headD 0) ps) && (rowB .any l.toArray cs && !cs.isEmpty)) && cs.all fun c => match l[c]? with | some o => o.guard.isNone | none => false) = true)
    (h : gWalk (manyG P cs ps C) l.toArray (fun a' => ∀ w', C cs.length w' → Q .normal a' w') 0 l a) : (Code.region id l.toArray true).wp P Q a w := by
  simp only [Region.lexB, Bool.and_eq_true] at hB
  rw [Bool.and_eq_true, Bool.and_eq_true, Bool.and_eq_true, Bool.and_eq_true] at hk
  obtain ⟨⟨⟨hk1, hk3⟩, hk4, hk5⟩, hk2⟩ := hk
  have hne : cs ≠ [] := by rintro rfl; simp at hk5
  have hg : ∀ c ∈ cs, ∀ o, l.toArray[c]? = some o → o.guard = none := by
    intro c hc o ho
    have h1 := List.all_eq_true.1 hk2 c hc
    simp only [List.getElem?_toArray] at ho
    rw [ho] at h1
    simpa using h1
  refine wp_region_any hm (any_of_gMany (Q := fun a' => ∀ w', C cs.length w' → Q .normal a' w') (C := C) (cs := cs) (ps := ps) hk4 hne hk1 hk3 hg (fun _ w' hw' h => h w' hw') _ _ _ _ (by simp) ?_ ?_ ?_)
  · intro j oj _ hl; rw [rep_false] at hl; cases hl
  · have : cnt cs (Array.replicate l.toArray.size false) = 0 := by
      unfold cnt; rw [List.countP_eq_zero]; intro c _; rw [rep_false]; simp
    rw [this]
    exact (hC _).2 ⟨1, rfl⟩
  · have := gAny_lex (G := manyG P cs ps C) (md := .any) hB.1 l 0 (Array.replicate l.toArray.size false) a (by simp) (by simpa using hB.2) h
    simpa using this

theorem mWalk_pre {Q : Act → Prop} {k : Nat} {o : Oper} {rest : List Oper} {a : Act} (hk : decide (k < cs.headD 0 ∧ k ∉ ps) = true)
    (h : ∀ K : Act → Prop, (∀ a, gWalk (manyG P cs ps C) ops Q (k + 1) rest a → K a) → if Region.wanted o (yielded ops a.tmps) then o.quiet P a (C 0) K else K (a.put o.dst undef)) : gWalk (manyG P cs ps C) ops Q k (o :: rest) a := by
  have h := h _ (fun _ h => h)
  unfold gWalk
  by_cases hw : Region.wanted o (yielded ops a.tmps) = true
  · rw [if_pos hw] at *
    obtain ⟨v, h1, h2⟩ := h
    refine ⟨v, ?_, h2⟩
    unfold manyG; rw [if_pos (of_decide_eq_true hk)]; exact h1
  · rw [if_neg hw] at *; exact h
theorem mWalk_write {Q : Act → Prop} {k q : Nat} {o : Oper} {rest : List Oper} {a : Act} (hk : (decide (¬ (k < cs.headD 0 ∧ k ∉ ps)) && decide (k ∈ cs) && decide (cs.idxOf k = q)) = true) (hg : o.guard = none) (v : Value)
    (h0 : ∀ w, C q w → writeUpon P (C (q + 1)) v ((execOp a.eval o).run P w)) (h : gWalk (manyG P cs ps C) ops Q (k + 1) rest (a.put o.dst v)) : gWalk (manyG P cs ps C) ops Q k (o :: rest) a := by
  simp only [Bool.and_eq_true, decide_eq_true_eq] at hk
  unfold gWalk
  rw [if_pos (by simp [Region.wanted, hg])]
  refine ⟨v, ?_, h⟩
  unfold manyG
  rw [if_neg hk.1.1, if_pos hk.1.2, hk.2]
  exact h0
theorem mWalk_post {Q : Act → Prop} {k : Nat} {o : Oper} {rest : List Oper} {a : Act} (hk : (decide (¬ (k < cs.headD 0 ∧ k ∉ ps)) && decide (k ∉ cs)) = true)
    (h : ∀ K : Act → Prop, (∀ a, gWalk (manyG P cs ps C) ops Q (k + 1) rest a → K a) → if Region.wanted o (yielded ops a.tmps) then Oper.pure_ P o a K else K (a.put o.dst undef)) : gWalk (manyG P cs ps C) ops Q k (o :: rest) a := by
  simp only [Bool.and_eq_true, decide_eq_true_eq] at hk
  have h := h _ (fun _ h => h)
  unfold gWalk
  by_cases hw : Region.wanted o (yielded ops a.tmps) = true
  · rw [if_pos hw] at *
    obtain ⟨v, h1, h2⟩ := h
    refine ⟨v, ?_, h2⟩
    unfold manyG; rw [if_neg hk.1, if_neg hk.2]; exact h1
  · rw [if_neg hw] at *; exact h
theorem mWalk_nil {Q : Act → Prop} {k : Nat} {a : Act} (h : Q a) : gWalk (manyG P cs ps C) ops Q k [] a := h
end
end Go.Proofs.Ytoppjjgecgbbkaa
