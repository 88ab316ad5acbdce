/- store laws: rows of edges that are made within a region that draws its order. -/
import Derived.Test.YtbegdgnhpklceaaB10
import Derived.Test.YtbegdgnhpklceaaB11
import Derived.Test.YtbegdgnhpklceaaB15
set_option linter.unusedSimpArgs false
set_option linter.unusedVariables false
/- A region that draws its order: one invariant over what is listed so far, one step for each operation; any order. -/
namespace Go.Proofs.Ytbegdgnhpklceaa
open Go.RowKit

def updG {α : Type} (f : Nat → α) (i : Nat) (v : α) : Nat → α := fun k => if k = i then v else f k
theorem updG_eq {α : Type} (f : Nat → α) (i : Nat) (v : α) : updG f i v i = v := if_pos rfl
theorem updG_ne {α : Type} (f : Nat → α) {i k : Nat} (v : α) (h : k ≠ i) : updG f i v k = f k := if_neg h
/-- What an operation comes to: a value. -/
def stepUpon (P : Program) (K : Value → World → Prop) : Result Go.Next → Prop
  | .ok (.value u) w' => K u w'
  | .ok .skip w' => K undef w'
  | .ok (.enter f args) w' => Calls P f args w' (fun e w'' => ∃ v, e = .returned v ∧ K v w'')
  | _ => False
attribute [go_sem] stepUpon
theorem step_upon {P : Program} {o : Oper} {a : Act} {K : Value → World → Prop} {K' : Act → World → Prop} {Q' : Exit → Act → World → Prop} (h : ∀ v w', K v w' → K' (a.put o.dst v) w')
    {r : Result Go.Next} (h3 : stepUpon P K r) : o.upon P a K' Q' r := by
  cases r with
  | halt x w' => exact h3.elim
  | ok x w' =>
    cases x with
    | value u => exact h _ _ h3
    | skip => exact h _ _ h3
    | enter f args => exact Calls.mono h3 fun e w'' ⟨v, he, hw''⟩ => by subst he; exact h _ _ hw''
    | _ => exact h3.elim

section
variable {P : Program} {ops : Array Oper} {md : Region.Mode} {f : Nat → Value} {S S' : Nat → Bool} {a : Act}
def dstOf (ops : Array Oper) (k : Nat) : Option Tmp := (ops[k]?).bind (·.dst)
def putsF (ops : Array Oper) (f : Nat → Value) (S : Nat → Bool) (a : Act) : Nat → Act
  | 0 => a
  | k + 1 => if S k = true then (putsF ops f S a k).put (dstOf ops k) (f k) else putsF ops f S a k
theorem putsF_yes {k : Nat} (h : S k = true) : putsF ops f S a (k + 1) = (putsF ops f S a k).put (dstOf ops k) (f k) := by
  show (if S k = true then _ else _) = _
  rw [if_pos h]
/-- No two operations have the same place. -/
def uniqB (ops : Array Oper) : Bool := (List.range ops.size).all fun i => (List.range ops.size).all fun k => i == k || (match dstOf ops i with | some d => dstOf ops k != some d | none => true)
def depsOf (md : Region.Mode) (o : Oper) : List Nat := (o.after.toList.filter fun e => Region.binds md e).map (·.on)
/-- What an operation looks at is made by those that it waits for. -/
def looksB (md : Region.Mode) (ops : Array Oper) : Bool := (List.range ops.size).all fun i => match ops[i]? with
  | none => true
  | some o => (List.range ops.size).all fun k => (match dstOf ops k with | some d => !(o.looksAt ops).contains d || ((depsOf md o).contains k && decide (k < i)) | none => true)
theorem uniq_spec (h : uniqB ops = true) {i k : Nat} {d : Tmp} (hi : dstOf ops i = some d) (hk : dstOf ops k = some d) : i = k := by
  have lt : ∀ {j}, dstOf ops j = some d → j < ops.size := fun {j} hj => by
    unfold dstOf at hj
    cases ho : ops[j]? with
    | none => rw [ho] at hj; cases hj
    | some o => exact (Array.getElem?_eq_some_iff.1 ho).1
  have h1 := List.all_eq_true.1 (List.all_eq_true.1 h i (by simpa using lt hi)) k (by simpa using lt hk)
  rw [hi] at h1
  simp only [hk, Bool.or_eq_true, beq_iff_eq] at h1
  rcases h1 with e | e
  · exact e
  · simp at e
theorem putsF_congr {f f' : Nat → Value} : ∀ {n : Nat}, (∀ k, k < n → S k = S' k ∧ f k = f' k) → putsF ops f S a n = putsF ops f' S' a n
  | 0, _ => rfl
  | n + 1, h => by
    unfold putsF
    rw [putsF_congr (n := n) (fun k hk => h k (by omega)), (h n (by omega)).1, (h n (by omega)).2]
theorem putsF_size : ∀ n, (putsF ops f S a n).tmps.size = a.tmps.size
  | 0 => rfl
  | n + 1 => by
    unfold putsF
    split
    · cases dstOf ops n <;> simp [Act.put, putsF_size n]
    · exact putsF_size n
theorem putsF_none {d : Tmp} : ∀ {n : Nat}, (∀ k, k < n → S k = true → dstOf ops k ≠ some d) → (putsF ops f S a n).tmps[d]? = a.tmps[d]?
  | 0, _ => rfl
  | n + 1, h => by
    have ih := putsF_none (n := n) (fun k hk => h k (by omega))
    unfold putsF
    split
    · rename_i hs
      have hne := h n (by omega) hs
      cases hd : dstOf ops n with
      | none => exact ih
      | some e =>
        rw [hd] at hne
        have : e ≠ d := fun h => hne (by rw [h])
        simp only [Act.put]
        rw [Array.getElem?_setIfInBounds_ne this]; exact ih
    · exact ih
theorem putsF_some (hu : uniqB ops = true) {d : Tmp} {k0 : Nat} (hd : dstOf ops k0 = some d) (hs : S k0 = true) : ∀ {n : Nat}, k0 < n → (putsF ops f S a n).tmps[d]? = if d < a.tmps.size then some (f k0) else none
  | 0, h => by omega
  | n + 1, h => by
    by_cases e : k0 = n
    · subst e
      unfold putsF
      rw [if_pos hs, hd]
      simp only [Act.put]
      by_cases hlt : d < a.tmps.size
      · rw [if_pos hlt, Array.getElem?_setIfInBounds_self_of_lt (by rw [putsF_size]; exact hlt)]
      · rw [if_neg hlt]
        exact Array.getElem?_eq_none (by rw [Array.size_setIfInBounds, putsF_size]; exact Nat.le_of_not_lt hlt)
    · have ih := putsF_some hu hd hs (n := n) (by omega)
      unfold putsF
      split
      · cases hn : dstOf ops n with
        | none => exact ih
        | some e' =>
          have : e' ≠ d := fun h => e (uniq_spec hu hd (by rw [hn, h]))
          simp only [Act.put]
          rw [Array.getElem?_setIfInBounds_ne this]; exact ih
      · exact ih
theorem putsF_get (hu : uniqB ops = true) {d : Tmp} {n m : Nat} (h : ∀ k, dstOf ops k = some d → ((k < n ∧ S k = true) ↔ (k < m ∧ S' k = true))) : (putsF ops f S a n).tmps[d]? = (putsF ops f S' a m).tmps[d]? := by
  by_cases hx : ∃ k, dstOf ops k = some d ∧ k < n ∧ S k = true
  · obtain ⟨k, h1, h2, h3⟩ := hx
    have h4 := (h k h1).1 ⟨h2, h3⟩
    rw [putsF_some hu h1 h3 h2, putsF_some hu h1 h4.2 h4.1]
  · rw [putsF_none (fun k hk hs hd => hx ⟨k, hd, hk, hs⟩), putsF_none (fun k hk hs hd => hx ⟨k, hd, (h k hd).2 ⟨hk, hs⟩⟩)]
theorem act_eval_congr {a a' : Act} {x : Operand} (hp : ∀ y, (∀ t, y ≠ .tmp t) → a.eval y = a'.eval y) (h : ∀ t, x = .tmp t → a.tmps[t]? = a'.tmps[t]?) : a.eval x = a'.eval x := by
  cases x with
  | tmp t => have := h t rfl; simp [Act.eval, this]
  | _ => exact hp _ (by intro t; simp)
theorem putsF_rest (y : Operand) (hy : ∀ t, y ≠ .tmp t) : ∀ n, (putsF ops f S a n).eval y = a.eval y
  | 0 => rfl
  | n + 1 => by
    unfold putsF
    split
    · rw [Act.eval_put (fun d _ => hy d)]; exact putsF_rest y hy n
    · exact putsF_rest y hy n
theorem puts_op (hu : uniqB ops = true) {o : Oper} (hs : ∀ cs b, o.op ≠ .select cs b) {n m : Nat} (h : ∀ k d, dstOf ops k = some d → d ∈ o.looksAt ops → ((k < n ∧ S k = true) ↔ (k < m ∧ S' k = true))) :
    execOp (putsF ops f S a n).eval o = execOp (putsF ops f S' a m).eval o ∧ Region.wanted o (yielded ops (putsF ops f S a n).tmps) = Region.wanted o (yielded ops (putsF ops f S' a m).tmps) := by
  refine ⟨execOp_congr o hs fun x hx => act_eval_congr (fun y hy => by rw [putsF_rest y hy, putsF_rest y hy]) fun t ht => ?_, ?_⟩
  · subst ht
    exact putsF_get hu fun k hk => h k t hk (List.mem_append_left _ (List.mem_filterMap.2 ⟨.tmp t, by simpa using hx, rfl⟩))
  · unfold Region.wanted
    cases hg : o.guard with
    | none => rfl
    | some gw =>
      obtain ⟨g, want⟩ := gw
      have hy : yielded ops (putsF ops f S a n).tmps g = yielded ops (putsF ops f S' a m).tmps g := by
        unfold yielded
        cases ht : (ops[g]?).bind (·.dst) with
        | none => rfl
        | some t =>
          have := putsF_get (f := f) (a := a) hu (d := t) fun k hk => h k t hk (by simp [Oper.looksAt, hg, ht])
          simp only [Option.bind_some, this]
      simp only [hy]
theorem puts_put (hu : uniqB ops = true) {i : Nat} (v : Value) (hL : S i = false) : ∀ n, i < n → (putsF ops f S a n).put (dstOf ops i) v = putsF ops (updG f i v) (updG S i true) a n
  | 0, h => by omega
  | n + 1, h => by
    by_cases e : i = n
    · subst e
      conv => rhs; unfold putsF
      rw [if_pos (updG_eq ..), updG_eq]
      conv => lhs; unfold putsF
      rw [if_neg (by rw [hL]; simp)]
      rw [putsF_congr (S' := updG S i true) (f' := updG f i v) (fun k hk => ⟨(updG_ne _ _ (by omega)).symm, (updG_ne _ _ (by omega)).symm⟩)]
    · have ih := puts_put hu v hL n (by omega)
      conv => rhs; unfold putsF
      rw [updG_ne _ _ (fun h => e h.symm), updG_ne _ _ (fun h => e h.symm), ← ih]
      conv => lhs; unfold putsF
      split
      · refine Act.put_comm _ _ _ fun d hd hd' => ?_
        exact e (uniq_spec hu hd' hd)
      · rfl
end

def invB (md : Region.Mode) (ops : Array Oper) : Bool := Region.noSelect ops && edgesBack md ops && uniqB ops && looksB md ops
/-- One operation. -/
def stepI (P : Program) (ops : Array Oper) (md : Region.Mode) (I : (Nat → Value) → (Nat → Bool) → World → Prop) (f : Nat → Value) (k : Nat) (o : Oper) (a : Act) : Prop :=
  ∀ L w, (∀ j ∈ depsOf md o, L j = true) → L k = false → I f L w →
    if Region.wanted o (yielded ops a.tmps) = true then stepUpon P (fun v w' => I (updG f k v) (updG L k true) w') ((execOp a.eval o).run P w) else I (updG f k undef) (updG L k true) w
def StepsI (P : Program) (ops : Array Oper) (md : Region.Mode) (I : (Nat → Value) → (Nat → Bool) → World → Prop) (f : Nat → Value) : Nat → List Oper → Act → Prop
  | _, [], _ => True
  | k, o :: r, a => stepI P ops md I f k o a ∧ StepsI P ops md I f (k + 1) r (a.put o.dst (f k))
def endA (f : Nat → Value) : Nat → List Oper → Act → Act
  | _, [], a => a
  | k, o :: r, a => endA f (k + 1) r (a.put o.dst (f k))

section
variable {P : Program} {md : Region.Mode} {I : (Nat → Value) → (Nat → Bool) → World → Prop}
theorem puts_text {l : List Oper} (f : Nat → Value) (a : Act) : ∀ (r : List Oper) (k : Nat), l.drop k = r → endA f k r (putsF l.toArray f (fun _ => true) a k) = putsF l.toArray f (fun _ => true) a l.length
  | [], k, h => by
    have hk : l.length ≤ k := List.drop_eq_nil_iff.1 h
    show putsF l.toArray f (fun _ => true) a k = _
    have : ∀ m, putsF l.toArray f (fun _ => true) a (l.length + m) = putsF l.toArray f (fun _ => true) a l.length := by
      intro m
      induction m with
      | zero => rfl
      | succ m ih =>
        have hd : dstOf l.toArray (l.length + m) = none := by simp [dstOf]
        rw [show l.length + (m + 1) = l.length + m + 1 by omega, putsF_yes rfl, ih, hd]
        rfl
    obtain ⟨m, rfl⟩ : ∃ m, k = l.length + m := ⟨k - l.length, by omega⟩
    exact this m
  | o :: r, k, h => by
    have hk : l[k]? = some o := by have := congrArg (fun r => r[0]?) h; simpa using this
    have hr : l.drop (k + 1) = r := by rw [← List.tail_drop, h]; rfl
    have := puts_text f a r (k + 1) hr
    rw [← this]
    show endA f (k + 1) r ((putsF l.toArray f (fun _ => true) a k).put o.dst (f k)) = _
    congr 1
    rw [putsF_yes rfl]
    congr 1
    simp [dstOf, hk]
theorem steps_at {l : List Oper} {f : Nat → Value} {a : Act} : ∀ (r : List Oper) (k : Nat), l.drop k = r → StepsI P l.toArray md I f k r (putsF l.toArray f (fun _ => true) a k) → ∀ i o, k ≤ i → l[i]? = some o → stepI P l.toArray md I f i o (putsF l.toArray f (fun _ => true) a i)
  | [], k, h, _, i, o, hi, ho => by
    have hk : l.length ≤ k := List.drop_eq_nil_iff.1 h
    have := (List.getElem?_eq_some_iff.1 ho).1
    omega
  | o' :: r, k, h, hS, i, o, hi, ho => by
    have hk : l[k]? = some o' := by have := congrArg (fun r => r[0]?) h; simpa using this
    have hr : l.drop (k + 1) = r := by rw [← List.tail_drop, h]; rfl
    by_cases e : i = k
    · subst e
      have : o' = o := Option.some.inj (hk.symm.trans ho)
      subst this
      exact hS.1
    · refine steps_at r (k + 1) hr ?_ i o (by omega) ho
      have h2 := hS.2
      have e2 : putsF l.toArray f (fun _ => true) a (k + 1) = (putsF l.toArray f (fun _ => true) a k).put o'.dst (f k) := by
        rw [putsF_yes rfl]
        congr 1
        simp [dstOf, hk]
      rw [e2]; exact h2

theorem any_of_inv {l : List Oper} {a : Act} {Q : Exit → Act → World → Prop} (hB : invB md l.toArray = true) (hstep : ∀ f i o, l[i]? = some o → stepI P l.toArray md I f i o (putsF l.toArray f (fun _ => true) a i))
    (hend : ∀ f L w', (∀ k, k < l.length → L k = true) → I f L w' → Q .normal (putsF l.toArray f (fun _ => true) a l.length) w') : ∀ (fuel : Nat) (listed : Array Bool) (f : Nat → Value) (w : World), listed.size = l.length → listed.toList.count false ≤ fuel →
    Shut md l.toArray listed → I f (fun k => listed.getD k false) w → wpAny P md l.toArray Q fuel listed (putsF l.toArray f (fun k => listed.getD k false) a l.length) w := by
  simp only [invB, Bool.and_eq_true] at hB
  obtain ⟨⟨⟨hsel, heb⟩, hu⟩, hlk⟩ := hB
  have hdone : ∀ (listed : Array Bool) (f : Nat → Value) (w : World), listed.size = l.length → Region.ready md l.toArray listed = [] → I f (fun k => listed.getD k false) w → Q .normal (putsF l.toArray f (fun k => listed.getD k false) a l.length) w := by
    intro listed f w hs h0 hI
    have hall := ready_nil (by simpa using hs) heb h0
    rw [putsF_congr (S' := fun _ => true) (f' := f) (fun k hk => ⟨hall k (by simpa using hk), rfl⟩)]
    exact hend f _ w (fun k hk => hall k (by simpa using hk)) hI
  intro fuel
  induction fuel with
  | zero =>
    intro listed f w hs hc _ hI
    have h0 : Region.ready md l.toArray listed = [] := by
      rw [List.eq_nil_iff_forall_not_mem]
      intro i hi
      obtain ⟨hun, oi, hoi, _⟩ := mem_ready.1 hi
      have hil : i < listed.size := by have := (Array.getElem?_eq_some_iff.1 hoi).1; simp at this; omega
      have hmem : false ∈ listed.toList := by
        rw [← show listed[i] = false by simpa [hil] using hun]
        simp
      have := List.count_pos_iff.2 hmem
      omega
    exact ⟨h0, hdone listed f w hs h0 hI⟩
  | succ fuel ih =>
    intro listed f w hs hc hsh hI
    refine ⟨fun h0 => hdone listed f w hs h0 hI, fun i hi => ?_⟩
    obtain ⟨hun, oi, hoi, hdep⟩ := mem_ready.1 hi
    have hil : i < l.length := by have := (Array.getElem?_eq_some_iff.1 hoi).1; simpa using this
    have hl0 : listed.getD i false = false := by
      simp [hs, hil] at hun ⊢; exact hun
    have hs' : (listed.setIfInBounds i true).size = l.length := by simp [hs]
    have hLu : (fun k => (listed.setIfInBounds i true).getD k false) = updG (fun k => listed.getD k false) i true := by
      funext k
      by_cases e : k = i
      · subst e; rw [updG_eq]; simp [hs, hil]
      · rw [updG_ne _ _ e, getD_set_ne false (fun h => e h.symm)]
    have hc' : (listed.setIfInBounds i true).toList.count false ≤ fuel := by
      have hmem : listed.toList[i]? = some false := by
        simp only [Array.getElem?_toList]
        simp [hs, hil] at hun
        simp [hs, hil, hun]
      have : (listed.setIfInBounds i true).toList = listed.toList.set i true := by simp
      rw [this]
      have h1 := List.count_set (l := listed.toList) (i := i) (a := true) (b := false) (by simpa [hs] using hil)
      have h2 : listed.toList[i]'(by simpa [hs] using hil) = false := (List.getElem?_eq_some_iff.1 hmem).2
      have e1 : (if ((false == false : Bool) = true) then (1 : Nat) else 0) = 1 := rfl
      have e2 : (if ((true == false : Bool) = true) then (1 : Nat) else 0) = 0 := rfl
      rw [h1, h2, e1, e2]
      omega
    have hdeps : ∀ j ∈ depsOf md oi, listed.getD j false = true := by
      intro j hj
      simp only [depsOf, List.mem_map, List.mem_filter] at hj
      obtain ⟨e, ⟨he, hb⟩, rfl⟩ := hj
      exact hdep e (by simpa using he) hb
    have hsame := puts_op (f := f) (a := a) hu (o := oi) (fun cs b => Region.noSelect_spec hsel i oi cs b hoi) (S := fun k => listed.getD k false) (S' := fun _ => true) (n := l.length) (m := i) (by
      intro k d hk hd
      have hkl : k < l.toArray.size := by
        unfold dstOf at hk
        cases ho : l.toArray[k]? with
        | none => rw [ho] at hk; cases hk
        | some o => exact (Array.getElem?_eq_some_iff.1 ho).1
      have h1 := List.all_eq_true.1 hlk i (by simpa using hil)
      simp only [hoi] at h1
      have h2 := List.all_eq_true.1 h1 k (by simpa using hkl)
      simp only [hk, Bool.or_eq_true, Bool.not_eq_true', Bool.and_eq_true, decide_eq_true_eq, List.contains_iff_mem] at h2
      rcases h2 with h2 | h2
      · rw [← Bool.not_eq_true, List.contains_iff_mem] at h2; exact absurd hd h2
      · exact ⟨fun _ => ⟨h2.2, rfl⟩, fun _ => ⟨by simpa using hkl, hdeps k h2.1⟩⟩)
    have hst := hstep f i oi (by simpa using hoi) (fun k => listed.getD k false) w hdeps hl0 hI
    have hdst : dstOf l.toArray i = oi.dst := by simp only [dstOf, hoi, Option.bind_some]
    have hnext : ∀ v w', I (updG f i v) (updG (fun k => listed.getD k false) i true) w' → wpAny P md l.toArray Q fuel (listed.setIfInBounds i true) ((putsF l.toArray f (fun k => listed.getD k false) a l.length).put oi.dst v) w' := by
      intro v w' hI'
      rw [← hdst, puts_put hu v hl0 l.length hil]
      have := ih (listed.setIfInBounds i true) (updG f i v) w' hs' hc' (hsh.set hi) (by rw [hLu]; exact hI')
      rw [hLu] at this
      exact this
    unfold wpOp
    simp only [hoi]
    rw [hsame.2]
    by_cases hw : Region.wanted oi (yielded l.toArray (putsF l.toArray f (fun _ => true) a i).tmps) = true
    · rw [if_pos hw] at hst
      rw [if_pos hw]
      left
      unfold Oper.wp
      rw [hsame.1]
      exact step_upon hnext hst
    · rw [if_neg hw] at hst
      rw [if_neg hw]
      exact hnext _ _ hst
/-- The law. -/
theorem region_inv {id : Nat} {Q : Exit → Act → World → Prop} {a : Act} {w : World} {l : List Oper} (I : (Nat → Value) → (Nat → Bool) → World → Prop) (hm : P.follows .mixedOrders = true) (hB : invB .any l.toArray = true)
    (h0 : I (fun _ => undef) (fun _ => false) w.drew) (hstep : ∀ f, StepsI P l.toArray .any I f 0 l a)
    (hend : ∀ f L w', (∀ k, k < l.length → L k = true) → I f L w' → Q .normal (endA f 0 l a) w') : (Code.region id l.toArray true).wp P Q a w := by
  have hz : (fun k => (Array.replicate l.toArray.size false).getD k false) = fun _ => false := by funext k; exact rep_false _ _
  refine wp_region_any hm ?_
  have := any_of_inv (P := P) (md := .any) (I := I) (a := a) (Q := Q) (l := l) hB (fun f i o ho => steps_at l 0 rfl (hstep f) i o (Nat.zero_le _) ho)
    (fun f L w' hL hI => by rw [← puts_text f a l 0 rfl]; exact hend f L w' hL hI) l.toArray.size (Array.replicate l.toArray.size false) (fun _ => undef) w.drew (by simp) (by simp) (by intro j oj _ hl; rw [rep_false] at hl; cases hl) (by rw [hz]; exact h0)
  rw [hz] at this
  have e : putsF l.toArray (fun _ => undef) (fun _ => false) a l.length = a := by
    have : ∀ n, putsF l.toArray (fun _ => undef) (fun _ => false) a n = a := by
      intro n
      induction n with
      | zero => rfl
      | succ n ih => unfold putsF; rw [if_neg (by simp)]; exact ih
    exact this _
  rw [e] at this
  exact this
/-- No operation has this place. -/
def freeB (ops : Array Oper) (d : Tmp) : Bool := (List.range ops.size).all fun j => dstOf ops j != some d
/-- Each operation, in any state that holds what the ones ahead of it have made. -/
def StepsB (P : Program) (ops : Array Oper) (md : Region.Mode) (I : (Nat → Value) → (Nat → Bool) → World → Prop) (f : Nat → Value) (a : Act) : Nat → List Oper → Prop
  | _, [] => True
  | k, o :: r => (∀ b : Act, b.tmps.size = a.tmps.size → (∀ j d, j < k → dstOf ops j = some d → d < a.tmps.size → b.tmps[d]? = some (f j)) → (∀ d, freeB ops d = true → b.tmps[d]? = a.tmps[d]?) → stepI P ops md I f k o b) ∧ StepsB P ops md I f a (k + 1) r
theorem stepsB_at {l : List Oper} {f : Nat → Value} {a : Act} : ∀ (r : List Oper) (k : Nat), l.drop k = r → StepsB P l.toArray md I f a k r → ∀ i o, k ≤ i → l[i]? = some o →
    ∀ b : Act, b.tmps.size = a.tmps.size → (∀ j d, j < i → dstOf l.toArray j = some d → d < a.tmps.size → b.tmps[d]? = some (f j)) → (∀ d, freeB l.toArray d = true → b.tmps[d]? = a.tmps[d]?) → stepI P l.toArray md I f i o b
  | [], k, h, _, i, o, hi, ho => by
    have hk : l.length ≤ k := List.drop_eq_nil_iff.1 h
    have := (List.getElem?_eq_some_iff.1 ho).1
    omega
  | o' :: r, k, h, hS, i, o, hi, ho => by
    have hk : l[k]? = some o' := by have := congrArg (fun r => r[0]?) h; simpa using this
    have hr : l.drop (k + 1) = r := by rw [← List.tail_drop, h]; rfl
    by_cases e : i = k
    · subst e
      have : o' = o := Option.some.inj (hk.symm.trans ho)
      subst this
      exact hS.1
    · exact stepsB_at r (k + 1) hr hS.2 i o (by omega) ho
/-- The law, each step in a state of its own. -/
theorem region_invB {id : Nat} {Q : Exit → Act → World → Prop} {a : Act} {w : World} {l : List Oper} (I : (Nat → Value) → (Nat → Bool) → World → Prop) (hm : P.follows .mixedOrders = true) (hB : invB .any l.toArray = true)
    (h0 : I (fun _ => undef) (fun _ => false) w.drew) (hstep : ∀ f, StepsB P l.toArray .any I f a 0 l)
    (hend : ∀ f L w', (∀ k, k < l.length → L k = true) → I f L w' → Q .normal (endA f 0 l a) w') : (Code.region id l.toArray true).wp P Q a w := by
  have hz : (fun k => (Array.replicate l.toArray.size false).getD k false) = fun _ => false := by funext k; exact rep_false _ _
  refine wp_region_any hm ?_
  have hu : uniqB l.toArray = true := by simp only [invB, Bool.and_eq_true] at hB; exact hB.1.2
  have := any_of_inv (P := P) (md := .any) (I := I) (a := a) (Q := Q) (l := l) hB (fun f i o ho => stepsB_at l 0 rfl (hstep f) i o (Nat.zero_le _) ho _ (putsF_size _)
      (fun j d hj hd hlt => by rw [putsF_some hu hd rfl hj, if_pos hlt])
      (fun d hd => putsF_none fun j hj _ e => by
        have hjl : j < l.toArray.size := by
          have := (List.getElem?_eq_some_iff.1 ho).1
          simp; omega
        have h1 := List.all_eq_true.1 hd j (by simpa using hjl)
        rw [e] at h1; simp at h1))
    (fun f L w' hL hI => by rw [← puts_text f a l 0 rfl]; exact hend f L w' hL hI) l.toArray.size (Array.replicate l.toArray.size false) (fun _ => undef) w.drew (by simp) (by simp) (by intro j oj _ hl; rw [rep_false] at hl; cases hl) (by rw [hz]; exact h0)
  rw [hz] at this
  have e : putsF l.toArray (fun _ => undef) (fun _ => false) a l.length = a := by
    have : ∀ n, putsF l.toArray (fun _ => undef) (fun _ => false) a n = a := by
      intro n
      induction n with
      | zero => rfl
      | succ n ih => unfold putsF; rw [if_neg (by simp)]; exact ih
    exact this _
  rw [e] at this
  exact this
theorem stepI_plain {ops : Array Oper} {f : Nat → Value} {k : Nat} {o : Oper} {a : Act} (hg : o.guard = none)
    (h : ∀ L w, (∀ j ∈ depsOf md o, L j = true) → L k = false → I f L w → stepUpon P (fun v w' => I (updG f k v) (updG L k true) w') ((execOp a.eval o).run P w)) : stepI P ops md I f k o a := fun L w hd hn hI => by
  rw [if_pos (by simp [Region.wanted, hg])]
  exact h L w hd hn hI
theorem stepI_on {ops : Array Oper} {f : Nat → Value} {k : Nat} {o : Oper} {a : Act}
    (h : ∀ L w, (∀ j ∈ depsOf md o, L j = true) → L k = false → I f L w → Region.wanted o (yielded ops a.tmps) = true ∧ stepUpon P (fun v w' => I (updG f k v) (updG L k true) w') ((execOp a.eval o).run P w)) : stepI P ops md I f k o a := fun L w hd hn hI => by
  rw [if_pos (h L w hd hn hI).1]
  exact (h L w hd hn hI).2
end
end Go.Proofs.Ytbegdgnhpklceaa

namespace Go.Proofs.Ytbegdgnhpklceaa
open Go.RowKit
set_option maxRecDepth 10000
set_option maxHeartbeats 800000

/-- 'append(v, x...)', of rows of edges. -/
theorem app_rows {w : World} {v x : Value} {l m : List Lv} (hv : RowV w v l) (hx : RowV w x m) (hn : l.length + m.length ≤ 65536) (ty : TypeId) :
    ∃ v' w', (Builtin.append_ #[24, 24] ty #[v, x]).run Try.prog w = .ok v' w' ∧ RowV w' v' (l ++ m) ∧ Fr v.ownBlock.toList w w' ∧ ∀ q, v'.ownBlock = some q → v.ownBlock = some q ∨ w.heap.size ≤ q := by
  obtain ⟨i0, hi, hz0, hz1, hz2⟩ := info_parts Try.info34
  have hx' := hx
  have hxl := hx.1
  rcases hx.2 with ⟨rfl, h0⟩ | ⟨gx, cap, cur, rfl, _, hgx, hnc, hcm, hcs, htake⟩
  · obtain rfl : m = [] := List.eq_nil_of_length_eq_zero h0
    refine ⟨v, w, run_append_owned_none w 0 24 ty 34 i0 7 Try.underlying24 hi v l.length (rowV l) hv, by rw [List.append_nil]; exact hv, Fr.refl _ _, fun q e => .inl e⟩
  · obtain ⟨v', w', hr, h2, h3, _, h5⟩ := run_append_own_at (P := Try.prog) w 0 24 ty 34 i0 lvZero 7 56 Try.underlying24 hi hz0 hz1 hz2 rfl (by decide) v l.length (rowV l) hv ⟨gx, 0, none⟩ m.length cap (rowV m) (rowV_len m) (hx'.cells (g := gx) rfl) (rowV_one m) (by unfold maxLen; omega) (by omega) (Nat.zero_le _)
    refine ⟨v', w', hr, ?_, ⟨h3.os, h3.tape, h3.output, h3.size, fun k hk hm => h3.block k hk (fun e => hm (by simp [e]))⟩, fun q hq => ?_⟩
    · unfold RowV
      rw [List.length_append, rowV_app]
      exact h2
    · rcases h5 with h5 | h5
      · rw [← h5]; exact .inl hq
      · rw [hq] at h5; simp at h5; exact .inr (by omega)
theorem si_app {w : World} {o : Oper} {a : Act} {K : Value → World → Prop} (s x : Operand)
    (ho : o.op = .call { callee := .builtin .append, args := #[s, x], argTypes := #[24, 24] }) {v y : Value} {l m : List Lv} (hs : a.eval s = v) (hx : a.eval x = y) (hv : RowV w v l) (hy : RowV w y m) (hn : l.length + m.length ≤ 65536)
    (h : ∀ v' w', RowV w' v' (l ++ m) → Fr v.ownBlock.toList w w' → (∀ q, v'.ownBlock = some q → v.ownBlock = some q ∨ w.heap.size ≤ q) → K v' w') : stepUpon Try.prog K ((execOp a.eval o).run Try.prog w) := by
  obtain ⟨v', w', hr, h1, h2, h3⟩ := app_rows hv hy hn o.type
  unfold execOp
  simp only [ho, resolve, invoke, builtin, Sem.run_bind, Sem.run_pure, Result.andThen_ok, List.map_toArray, List.map_cons, List.map_nil, hs, hx, hr]
  exact h v' w' h1 h2 h3
theorem RowV.mt (w : World) : RowV (w.alloc (.cells #[] 34)) (.slice (some ⟨w.heap.size, 0, none⟩) 0 0) [] :=
  ⟨by simp [rowV], .inr ⟨w.heap.size, 0, #[], rfl, Nat.zero_le _, Blk.new w [] 34, Nat.le_refl _, Nat.zero_le _, by simp, by simp [rowV]⟩⟩
theorem RowV.one (w : World) (x : Lv) : RowV (w.alloc (.cells (lvC x).toArray 34)) (.slice (some ⟨w.heap.size, 0, none⟩) 1 1) [x] :=
  ⟨by simp [rowV, lvC], .inr ⟨w.heap.size, 1, (lvC x).toArray, rfl, Nat.zero_le _, Blk.new w (lvC x) 34, Nat.le_refl _, by decide, by simp [lvC], by simp [rowV, lvC]⟩⟩

/-- The rows that are alive: g says which operation made one, and what it says; all apart from each other and made since w0. -/
def LRows (w0 w : World) (f : Nat → Value) (g : Nat → Option (List Lv)) : Prop :=
  Fr [] w0 w ∧ (∀ k c, g k = some c → RowV w (f k) c ∧ ∀ q, (f k).ownBlock = some q → w0.heap.size ≤ q) ∧
    ∀ j k c d, j ≠ k → g j = some c → g k = some d → ∀ q, (f j).ownBlock = some q → (f k).ownBlock ≠ some q
section
variable {w0 w w' : World} {f : Nat → Value} {g g' : Nat → Option (List Lv)} {i : Nat} {v : Value} {c : List Lv}
theorem LRows.pass (h : LRows w0 w f g) (hf : Fr [] w w') (hg : ∀ k c, g' k = some c → k ≠ i ∧ g k = some c) : LRows w0 w' (updG f i v) g' := by
  obtain ⟨h1, h2, h3⟩ := h
  refine ⟨h1.trans' hf, fun k c hk => ?_, fun j k c d hjk hj hk => ?_⟩
  · obtain ⟨k1, k2⟩ := hg k c hk
    rw [updG_ne _ _ k1]
    exact ⟨(h2 k c k2).1.fr0 hf, (h2 k c k2).2⟩
  · obtain ⟨j1, j2⟩ := hg j c hj
    obtain ⟨k1, k2⟩ := hg k d hk
    rw [updG_ne _ _ j1, updG_ne _ _ k1]
    exact h3 j k c d hjk j2 k2
theorem LRows.new (h : LRows w0 w f g) (hf : Fr [] w w') (hr : RowV w' v c) (ho : ∀ q, v.ownBlock = some q → w.heap.size ≤ q)
    (hg : ∀ k c', g' k = some c' → (k = i ∧ c' = c) ∨ (k ≠ i ∧ g k = some c')) : LRows w0 w' (updG f i v) g' := by
  obtain ⟨h1, h2, h3⟩ := h
  have hs := h1.size
  have hlt : ∀ {k d q}, g k = some d → (f k).ownBlock = some q → q < w.heap.size := fun hk hq => (h2 _ _ hk).1.lt hq
  refine ⟨h1.trans' hf, fun k c' hk => ?_, fun j k c' d hjk hj hk q hqj hqk => ?_⟩
  · rcases hg k c' hk with ⟨rfl, rfl⟩ | ⟨k1, k2⟩
    · rw [updG_eq]; exact ⟨hr, fun q hq => Nat.le_trans hs (ho q hq)⟩
    · rw [updG_ne _ _ k1]; exact ⟨(h2 k c' k2).1.fr0 hf, (h2 k c' k2).2⟩
  · rcases hg j c' hj with ⟨rfl, rfl⟩ | ⟨j1, j2⟩
    · rcases hg k d hk with ⟨rfl, rfl⟩ | ⟨k1, k2⟩
      · exact hjk rfl
      · rw [updG_eq] at hqj; rw [updG_ne _ _ k1] at hqk
        have := ho q hqj; have := hlt k2 hqk; omega
    · rcases hg k d hk with ⟨rfl, rfl⟩ | ⟨k1, k2⟩
      · rw [updG_eq] at hqk; rw [updG_ne _ _ j1] at hqj
        have := ho q hqk; have := hlt j2 hqj; omega
      · rw [updG_ne _ _ j1] at hqj; rw [updG_ne _ _ k1] at hqk
        exact h3 j k c' d hjk j2 k2 q hqj hqk
theorem LRows.app {j0 : Nat} {l : List Lv} (h : LRows w0 w f g) (hj : g j0 = some l) (hf : Fr (f j0).ownBlock.toList w w') (hr : RowV w' v c) (ho : ∀ q, v.ownBlock = some q → (f j0).ownBlock = some q ∨ w.heap.size ≤ q)
    (hg : ∀ k c', g' k = some c' → (k = i ∧ c' = c) ∨ (k ≠ i ∧ k ≠ j0 ∧ g k = some c')) : LRows w0 w' (updG f i v) g' := by
  obtain ⟨h1, h2, h3⟩ := h
  have hs := h1.size
  have hlt : ∀ {k d q}, g k = some d → (f k).ownBlock = some q → q < w.heap.size := fun hk hq => (h2 _ _ hk).1.lt hq
  refine ⟨h1.trans hf (fun b hb => .inr ((h2 j0 l hj).2 b (by simpa using hb))), fun k c' hk => ?_, fun j k c' d hjk hj' hk q hqj hqk => ?_⟩
  · rcases hg k c' hk with ⟨rfl, rfl⟩ | ⟨k1, k3, k2⟩
    · rw [updG_eq]
      exact ⟨hr, fun q hq => (ho q hq).elim (fun e => (h2 j0 l hj).2 q e) (fun e => Nat.le_trans hs e)⟩
    · rw [updG_ne _ _ k1]
      exact ⟨(h2 k c' k2).1.fr hf (fun q hq hm => h3 k j0 c' l k3 k2 hj q hq (by simpa using hm)), (h2 k c' k2).2⟩
  · rcases hg j c' hj' with ⟨rfl, rfl⟩ | ⟨j1, j3, j2⟩
    · rcases hg k d hk with ⟨rfl, rfl⟩ | ⟨k1, k3, k2⟩
      · exact hjk rfl
      · rw [updG_eq] at hqj; rw [updG_ne _ _ k1] at hqk
        rcases ho q hqj with e | e
        · exact h3 k j0 d l k3 k2 hj q hqk e
        · have := hlt k2 hqk; omega
    · rcases hg k d hk with ⟨rfl, rfl⟩ | ⟨k1, k3, k2⟩
      · rw [updG_eq] at hqk; rw [updG_ne _ _ j1] at hqj
        rcases ho q hqk with e | e
        · exact h3 j j0 c' l j3 j2 hj q hqj e
        · have := hlt j2 hqj; omega
      · rw [updG_ne _ _ j1] at hqj; rw [updG_ne _ _ k1] at hqk
        exact h3 j k c' d hjk j2 k2 q hqj hqk
end
/-- What is listed has its value; the rows that are alive. -/
def InvR (G : Nat → Value → Prop) (g : (Nat → Bool) → Nat → Option (List Lv)) (w0 : World) (f : Nat → Value) (L : Nat → Bool) (w : World) : Prop := (∀ k, L k = true → G k (f k)) ∧ LRows w0 w f (g L)
section
variable {G : Nat → Value → Prop} {g : (Nat → Bool) → Nat → Option (List Lv)} {w0 w w' : World} {f : Nat → Value} {L : Nat → Bool} {i : Nat} {v : Value} {c : List Lv}
theorem gstep (h : ∀ k, L k = true → G k (f k)) (hG : G i v) : ∀ k, updG L i true k = true → G k (updG f i v k) := fun k hk => by
  by_cases e : k = i
  · subst e; rw [updG_eq]; exact hG
  · rw [updG_ne _ _ e] at hk ⊢; exact h k hk
theorem InvR.pass (h : InvR G g w0 f L w) (hG : G i v) (hf : Fr [] w w') (hg : ∀ k c, g (updG L i true) k = some c → k ≠ i ∧ g L k = some c) : InvR G g w0 (updG f i v) (updG L i true) w' := ⟨gstep h.1 hG, h.2.pass hf hg⟩
theorem InvR.new (h : InvR G g w0 f L w) (hG : G i v) (hf : Fr [] w w') (hr : RowV w' v c) (ho : ∀ q, v.ownBlock = some q → w.heap.size ≤ q)
    (hg : ∀ k c', g (updG L i true) k = some c' → (k = i ∧ c' = c) ∨ (k ≠ i ∧ g L k = some c')) : InvR G g w0 (updG f i v) (updG L i true) w' := ⟨gstep h.1 hG, h.2.new hf hr ho hg⟩
theorem InvR.app {j0 : Nat} {l : List Lv} (h : InvR G g w0 f L w) (hG : G i v) (hj : g L j0 = some l) (hf : Fr (f j0).ownBlock.toList w w') (hr : RowV w' v c) (ho : ∀ q, v.ownBlock = some q → (f j0).ownBlock = some q ∨ w.heap.size ≤ q)
    (hg : ∀ k c', g (updG L i true) k = some c' → (k = i ∧ c' = c) ∨ (k ≠ i ∧ k ≠ j0 ∧ g L k = some c')) : InvR G g w0 (updG f i v) (updG L i true) w' := ⟨gstep h.1 hG, h.2.app hj hf hr ho hg⟩
theorem InvR.row (h : InvR G g w0 f L w) {k : Nat} (hk : g L k = some c) : RowV w (f k) c := (h.2.2.1 k c hk).1
theorem InvR.fr (h : InvR G g w0 f L w) : Fr [] w0 w := h.2.1
end
theorem dep_of {md : Region.Mode} {o : Oper} {L : Nat → Bool} (h : ∀ j ∈ depsOf md o, L j = true) (j : Nat) (hj : (depsOf md o).contains j = true) : L j = true := h j (by simpa using hj)
end Go.Proofs.Ytbegdgnhpklceaa
