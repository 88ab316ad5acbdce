/- 'append' of one element of several cells; 'append' at a step of a region that draws its order; onto an empty slice that was just made. -/
import Derived.Test.YtgmnemndjjmgkaaGreatB1
import Derived.Deep.Quiet
import Derived.Test.YtgmnemndjjmgkaaGreatB7
set_option linter.unusedSimpArgs false
set_option linter.unusedVariables false
/- A region that draws its order, of whose operations ONE changes the world (a call, a store, an append): one walk in the order of the text serves every order. -/
namespace Go.Proofs.YtgmnemndjjmgkaaGreat
open Go.RowKit
section
variable {P : Program} {ops : Array Oper} {md : Region.Mode} (G : Nat → Sem Go.Next → Value → Prop)
def gOp (ops : Array Oper) (i : Nat) (K : Act → Prop) (a : Act) : Prop :=
  match ops[i]? with
  | none => K a
  | some o => if Region.wanted o (yielded ops a.tmps) then ∃ v, G i (execOp a.eval o) v ∧ K (a.put o.dst v) else K (a.put o.dst undef)
def gWalk (ops : Array Oper) (Q : Act → Prop) : Nat → List Oper → Act → Prop
  | _, [], a => Q a
  | k, o :: rest, a => if Region.wanted o (yielded ops a.tmps) then ∃ v, G k (execOp a.eval o) v ∧ gWalk ops Q (k + 1) rest (a.put o.dst v) else gWalk ops Q (k + 1) rest (a.put o.dst undef)
def gAny (md : Region.Mode) (ops : Array Oper) (Q : Act → Prop) : Nat → Array Bool → Act → Prop
  | 0, listed, a => Region.ready md ops listed = [] ∧ Q a
  | fuel + 1, listed, a =>
    (Region.ready md ops listed = [] → Q a) ∧ ∀ i ∈ Region.ready md ops listed, gOp G ops i (gAny md ops Q fuel (listed.setIfInBounds i true)) a
variable {G}
def gYields (G : Nat → Sem Go.Next → Value → Prop) (ops : Array Oper) (i : Nat) (o : Oper) (v : Value) (a : Act) : Prop :=
  (Region.wanted o (yielded ops a.tmps) = true ∧ G i (execOp a.eval o) v) ∨ (Region.wanted o (yielded ops a.tmps) = false ∧ v = undef)
theorem gYields.op {i : Nat} {o : Oper} {v : Value} {a : Act} (hi : ops[i]? = some o) (hy : gYields G ops i o v a) {K : Act → Prop} (h : K (a.put o.dst v)) : gOp G ops i K a := by
 unfold gOp
 simp only [hi]
 rcases hy with ⟨hw, hv⟩ | ⟨hw, rfl⟩
 · rw [if_pos hw]; exact ⟨v, hv, h⟩
 · rw [if_neg (by simp [hw])]; exact h
theorem gYields.same {i : Nat} {o : Oper} {v : Value} {a a' : Act} (hy : gYields G ops i o v a) (he : execOp a'.eval o = execOp a.eval o)
    (hw : Region.wanted o (yielded ops a'.tmps) = Region.wanted o (yielded ops a.tmps)) : gYields G ops i o v a' := by
 unfold gYields at *; rw [he, hw]; exact hy
theorem gOp_mono {i : Nat} {a : Act} {K K' : Act → Prop} (h : ∀ a, K a → K' a) (hh : gOp G ops i K a) : gOp G ops i K' a := by
 unfold gOp at *
 cases ho : ops[i]? with
 | none => simp only [ho] at hh ⊢; exact h _ hh
 | some o => {
 simp only [ho] at hh ⊢
 by_cases hw : Region.wanted o (yielded ops a.tmps) = true
 · rw [if_pos hw] at *; obtain ⟨v, h1, h2⟩ := hh; exact ⟨v, h1, h _ h2⟩
 · rw [if_neg hw] at *; exact h _ hh
 }
theorem gYields_of_op {i : Nat} {o : Oper} {a : Act} {K : Act → Prop} (hi : ops[i]? = some o) (h : gOp G ops i K a) : ∃ v, gYields G ops i o v a ∧ K (a.put o.dst v) := by
 unfold gOp at h
 simp only [hi] at h
 by_cases hw : Region.wanted o (yielded ops a.tmps) = true
 {
 rw [if_pos hw] at h
 obtain ⟨v, h1, h2⟩ := h
 exact ⟨v, .inl ⟨hw, h1⟩, h2⟩
 }
 {
 rw [if_neg hw] at h
 exact ⟨undef, .inr ⟨by simpa using hw, rfl⟩, h⟩
 }
theorem gOp_put {i j : Nat} {oi oj : Oper} {v : Value} (hj : ops[j]? = some oj) (hap : oi.apart ops oj = true)
    (hsi : ∀ cs b, oi.op ≠ .select cs b) (hsj : ∀ cs b, oj.op ≠ .select cs b) {K : Act → Prop} {a : Act}
    (hy : gYields G ops i oi v a) (h : gOp G ops j K (a.put oi.dst v)) :
    gOp G ops j (fun a' => gYields G ops i oi v a' ∧ K (a'.put oi.dst v)) a := by
 obtain ⟨h1, h2, h3⟩ := Oper.apart_spec hap
 have keep : ∀ (a : Act), gYields G ops i oi v a → ∀ u, gYields G ops i oi v (a.put oj.dst u) := fun a hy u =>
   hy.same (execOp_put oi hsi a oj.dst u h3) (wanted_put oi a oj.dst u h3)
 unfold gOp at *
 simp only [hj] at *
 rw [wanted_put oj a oi.dst v h1] at h
 by_cases hw : Region.wanted oj (yielded ops a.tmps) = true
 {
 rw [if_pos hw] at *
 obtain ⟨u, hu, hn⟩ := h
 rw [execOp_put oj hsj a oi.dst v h1] at hu
 exact ⟨u, hu, keep a hy u, by rw [← Act.put_comm a v u h2]; exact hn⟩
 }
 {
 rw [if_neg hw] at *
 exact ⟨keep a hy _, by rw [← Act.put_comm a v undef h2]; exact h⟩
 }
theorem gAny_first {Q : Act → Prop} {i : Nat} {oi : Oper} {v : Value} (hi : ops[i]? = some oi) (hsel : ∀ (j : Nat) (o : Oper) cs b, ops[j]? = some o → o.op ≠ .select cs b) :
    ∀ (fuel : Nat) (listed : Array Bool) (a : Act),
      (∀ j oj, ops[j]? = some oj → j ≠ i → listed.getD j true = false → (∀ e ∈ oj.after, Region.binds md e = true → e.on ≠ i) → oi.apart ops oj = true) →
      i ∈ Region.ready md ops listed → gYields G ops i oi v a →
      gAny G md ops Q fuel (listed.setIfInBounds i true) (a.put oi.dst v) → gAny G md ops Q (fuel + 1) listed a := by
  intro fuel
  induction fuel with
  | zero =>
    intro listed a _ hr hy H
    refine ⟨fun h => (by rw [h] at hr; cases hr), fun j hj => ?_⟩
    by_cases hji : j = i
    · subst hji; exact hy.op hi H
    · have := ready_mono hj hji
      rw [H.1] at this
      cases this
  | succ fuel ih =>
    intro listed a hfree hr hy H
    refine ⟨fun h => (by rw [h] at hr; cases hr), fun j hj => ?_⟩
    by_cases hji : j = i
    · subst hji; exact hy.op hi H
    · have h1 := H.2 j (ready_mono hj hji)
      obtain ⟨hjun, oj, hoj, hall⟩ := mem_ready.1 hj
      have hnot : ∀ e ∈ oj.after, Region.binds md e = true → e.on ≠ i := fun e he hb heq => by
        have h1 := hall e he hb
        have h0 := (mem_ready.1 hr).1
        rw [heq] at h1
        rcases Nat.lt_or_ge i listed.size with h' | h'
        · simp [h'] at h0 h1; rw [h0] at h1; cases h1
        · simp [Array.getElem?_eq_none h'] at h1
      have h2 := gOp_put hoj (hfree j oj hoj hji hjun hnot) (fun cs b => hsel i oi cs b hi) (fun cs b => hsel j oj cs b hoj) hy h1
      have hfree' : ∀ k ok, ops[k]? = some ok → k ≠ i → (listed.setIfInBounds j true).getD k true = false →
          (∀ e ∈ ok.after, Region.binds md e = true → e.on ≠ i) → oi.apart ops ok = true := fun k ok hk hki hun hno => by
        refine hfree k ok hk hki ?_ hno
        by_cases hjk : j = k
        · subst hjk; exact hjun
        · rw [getD_set_ne true hjk] at hun; exact hun
      refine gOp_mono (fun a' h3 => ih (listed.setIfInBounds j true) a' hfree' (ready_mono hr (Ne.symm hji)) h3.1 ?_) h2
      rw [Array.setIfInBounds_comm _ _ hji]
      exact h3.2
theorem gAny_lex {Q : Act → Prop} (hs : Region.noSelect ops = true) : ∀ (l : List Oper) (k : Nat) (listed : Array Bool) (a : Act), (∀ j, l[j]? = ops[k + j]?) →
    Region.lexFrom md ops l.length k listed = true → gWalk G ops Q k l a → gAny G md ops Q l.length listed a
  | [], _, _, _, _, hB, h => ⟨by simpa [Region.lexFrom] using hB, h⟩
  | o :: l, k, listed, a, hl, hB, h => by
    have h0 : ops[k]? = some o := by simpa using (hl 0).symm
    simp only [List.length_cons, Region.lexFrom, Bool.and_eq_true] at hB
    obtain ⟨⟨hr, hf⟩, hB'⟩ := hB
    have hst : gOp G ops k (gWalk G ops Q (k + 1) l) a := by unfold gOp; simp only [h0]; exact h
    obtain ⟨v, hy, hK⟩ := gYields_of_op h0 hst
    exact gAny_first h0 (Region.noSelect_spec hs) l.length listed a (Region.free_spec h0 hf) (by simpa using hr) hy
      (gAny_lex hs l (k + 1) _ _ (fun j => by have := hl (j + 1); simpa [Nat.add_assoc, Nat.add_comm 1 j] using this) hB' hK)
end
def writeUpon (P : Program) (C1 : World → Prop) (v : Value) : Result Go.Next → Prop
  | .ok (.value u) w' => u = v ∧ C1 w'
  | .ok .skip w' => v = undef ∧ C1 w'
  | .ok (.enter f args) w' => Calls P f args w' (fun e w'' => e = .returned v ∧ C1 w'')
  | _ => False
def pureUpon (w : World) (v : Value) : Result Go.Next → Prop
  | .ok (.value u) w' => w' = w ∧ u = v
  | .ok .skip w' => w' = w ∧ v = undef
  | _ => False
def oneG (P : Program) (c : Nat) (C0 C1 : World → Prop) (i : Nat) (s : Sem Go.Next) (v : Value) : Prop :=
  if i < c then ∀ w, C0 w → Oper.quietUpon P C0 w v (s.run P w) else if i = c then ∀ w, C0 w → writeUpon P C1 v (s.run P w) else ∀ w, pureUpon w v (s.run P w)
theorem quiet_upon {P : Program} {o : Oper} {a : Act} {v : Value} {C : World → Prop} {w : World} {K' : Act → World → Prop} {Q' : Exit → Act → World → Prop} (hw : C w) (h : ∀ w', C w' → K' (a.put o.dst v) w')
    {r : Result Go.Next} (h3 : Oper.quietUpon P C w v r) : o.upon P a K' Q' r := by
 cases r with
 | halt x w' => exact h3.elim
 | ok x w' => {
 cases x with
 | value u => obtain ⟨rfl, rfl⟩ := h3; exact h _ hw
 | skip => obtain ⟨rfl, rfl⟩ := h3; exact h _ hw
 | enter f args => {
 obtain ⟨rfl, hc⟩ := h3
 exact hc.mono fun e w'' ⟨he, hw''⟩ => by subst he; exact h _ hw''
 }
 | _ => exact h3.elim
 }
theorem write_upon {P : Program} {o : Oper} {a : Act} {v : Value} {C : World → Prop} {K' : Act → World → Prop} {Q' : Exit → Act → World → Prop} (h : ∀ w', C w' → K' (a.put o.dst v) w')
    {r : Result Go.Next} (h3 : writeUpon P C v r) : o.upon P a K' Q' r := by
 cases r with
 | halt x w' => exact h3.elim
 | ok x w' => {
 cases x with
 | value u => obtain ⟨rfl, hc⟩ := h3; exact h _ hc
 | skip => obtain ⟨rfl, hc⟩ := h3; exact h _ hc
 | enter f args => exact Calls.mono h3 fun e w'' ⟨he, hw''⟩ => by subst he; exact h _ hw''
 | _ => exact h3.elim
 }
theorem pure_upon {P : Program} {o : Oper} {a : Act} {v : Value} {w : World} {K' : Act → World → Prop} {Q' : Exit → Act → World → Prop} (h : K' (a.put o.dst v) w)
    {r : Result Go.Next} (h3 : pureUpon w v r) : o.upon P a K' Q' r := by
 cases r with
 | halt x w' => exact h3.elim
 | ok x w' => {
 cases x with
 | value u => obtain ⟨rfl, rfl⟩ := h3; exact h
 | skip => obtain ⟨rfl, rfl⟩ := h3; exact h
 | _ => exact h3.elim
 }
section
variable {P : Program} {ops : Array Oper} {md : Region.Mode} {C0 C1 : World → Prop} {c : Nat}
theorem rep_false (m j : Nat) : (Array.replicate m false).getD j false = false := by
 by_cases h : j < m <;> simp [h]
def marks (md : Region.Mode) (ops : Array Oper) : Nat → Array Bool → Array Bool
  | 0, S => S
  | j + 1, S => marks md ops j (if S.getD j false then (match ops[j]? with | some o => o.after.toList.foldl (fun S e => if Region.binds md e then S.setIfInBounds e.on true else S) S | none => S) else S)
def allBefore (md : Region.Mode) (ops : Array Oper) (c : Nat) : Bool := (List.range c).all fun i => (marks md ops (c + 1) ((Array.replicate ops.size false).setIfInBounds c true)).getD i false
def Shut (md : Region.Mode) (ops : Array Oper) (L : Array Bool) : Prop := ∀ j oj, ops[j]? = some oj → L.getD j false = true → ∀ e ∈ oj.after, Region.binds md e = true → L.getD e.on false = true
theorem marks_sub {L : Array Bool} (hL : Shut md ops L) : ∀ (j : Nat) (S : Array Bool), (∀ i, S.getD i false = true → L.getD i false = true) → ∀ i, (marks md ops j S).getD i false = true → L.getD i false = true
  | 0, S, h => h
  | j + 1, S, h => by
    unfold marks
    refine marks_sub hL j _ ?_
    by_cases hj : S.getD j false = true
    · rw [if_pos hj]
      cases ho : ops[j]? with
      | none => exact h
      | some o =>
        have hcl := hL j o ho (h j hj)
        have key : ∀ (es : List Edge) (T : Array Bool), (∀ e ∈ es, e ∈ o.after.toList) → (∀ i, T.getD i false = true → L.getD i false = true) →
            ∀ i, (es.foldl (fun S e => if Region.binds md e then S.setIfInBounds e.on true else S) T).getD i false = true → L.getD i false = true := by
          intro es
          induction es with
          | nil => intro T _ hT; exact hT
          | cons e es ih =>
            intro T hes hT
            rw [List.foldl_cons]
            refine ih _ (fun e' he' => hes e' (List.mem_cons_of_mem _ he')) ?_
            by_cases hb : Region.binds md e = true
            · rw [if_pos hb]
              intro i hi
              by_cases hei : e.on = i
              · rw [← hei]; exact hcl e (by simpa using hes e (by simp)) hb
              · rw [getD_set_ne false hei] at hi; exact hT i hi
            · rw [if_neg hb]; exact hT
        exact key _ S (fun e he => he) h
    · rw [if_neg hj]; exact h
theorem before_listed {L : Array Bool} (hL : Shut md ops L) (hB : allBefore md ops c = true) (hc : L.getD c false = true) : ∀ i, i < c → L.getD i false = true := by
 intro i hi
 have h1 := List.all_eq_true.1 hB i (by simpa using hi)
 refine marks_sub hL (c + 1) _ ?_ i h1
 intro j hj
 by_cases e : c = j
 · rw [← e]; exact hc
 {
 rw [getD_set_ne false e, rep_false] at hj
 cases hj
 }
theorem Shut.set {L : Array Bool} {i : Nat} (h : Shut md ops L) (hi : i ∈ Region.ready md ops L) : Shut md ops (L.setIfInBounds i true) := by
 obtain ⟨_, oi, hoi, hall⟩ := mem_ready.1 hi
 intro j oj hj hl e he hb
 by_cases hij : i = j
 {
 subst hij
 have : oj = oi := Option.some.inj (hj.symm.trans hoi)
 subst this
 exact getD_set_true (hall e he hb)
 }
 {
 rw [getD_set_ne false hij] at hl
 exact getD_set_true (h j oj hj hl e he hb)
 }
def phase (c : Nat) (C0 C1 : World → Prop) (listed : Array Bool) (w : World) : Prop := if listed.getD c false = true then C1 w else C0 w
def edgesBack (md : Region.Mode) (ops : Array Oper) : Bool := (List.range ops.size).all fun j => match ops[j]? with
  | some o => o.after.all fun e => !Region.binds md e || decide (e.on < j)
  | none => true
theorem ready_nil {listed : Array Bool} (hs : listed.size = ops.size) (hb : edgesBack md ops = true) (h : Region.ready md ops listed = []) : ∀ j, j < ops.size → listed.getD j false = true := by
 intro j
 induction j using Nat.strongRecOn with
 | _ j ih => {
 intro hj
 apply Classical.byContradiction
 intro hno
 have hun : listed.getD j true = false := by simp [hs, hj] at hno ⊢; exact hno
 obtain ⟨o, ho⟩ : ∃ o, ops[j]? = some o := ⟨_, Array.getElem?_eq_getElem hj⟩
 have hin : j ∈ Region.ready md ops listed := by {
 refine mem_ready.2 ⟨hun, o, ho, fun e he hbe => ?_⟩
 have h1 := List.all_eq_true.1 hb j (by simpa using hj)
 simp only [ho] at h1
 have h2 := Array.all_eq_true'.1 h1 e he
 simp [hbe] at h2
 exact ih e.on h2 (by omega)
 }
 rw [h] at hin
 cases hin
 }
theorem any_of_gAny (hc : c < ops.size) (hb : edgesBack md ops = true) (hbf : allBefore md ops c = true) (hu : ∀ o, ops[c]? = some o → o.guard = none) {Q : Act → Prop} {Q' : Exit → Act → World → Prop} (hQ : ∀ a w, C1 w → Q a → Q' .normal a w) : ∀ (fuel : Nat) (listed : Array Bool) (a : Act) (w : World), listed.size = ops.size →
    Shut md ops listed → phase c C0 C1 listed w → gAny (oneG P c C0 C1) md ops Q fuel listed a → wpAny P md ops Q' fuel listed a w
  | 0, listed, a, w, hs, _, hp, h => ⟨h.1, hQ _ _ (by unfold phase at hp; rw [if_pos (ready_nil hs hb h.1 c hc)] at hp; exact hp) h.2⟩
  | fuel + 1, listed, a, w, hs, hsh, hp, h => by
    refine ⟨fun h0 => hQ _ _ (by unfold phase at hp; rw [if_pos (ready_nil hs hb h0 c hc)] at hp; exact hp) (h.1 h0), fun i hi => ?_⟩
    have hg := h.2 i hi
    obtain ⟨hun, oi, hoi, _⟩ := mem_ready.1 hi
    have hil : i < ops.size := (Array.getElem?_eq_some_iff.1 hoi).1
    have hs' : (listed.setIfInBounds i true).size = ops.size := by simp [hs]
    have hl0 : listed.getD i false = false := by
      simp [hs, hil] at hun ⊢; exact hun
    have next : ∀ a' w', phase c C0 C1 (listed.setIfInBounds i true) w' → gAny (oneG P c C0 C1) md ops Q fuel (listed.setIfInBounds i true) a' → wpAny P md ops Q' fuel (listed.setIfInBounds i true) a' w' :=
      fun a' w' hp' hg' => any_of_gAny hc hb hbf hu hQ fuel _ a' w' hs' (hsh.set hi) hp' hg'
    unfold gOp at hg
    unfold wpOp
    simp only [hoi] at hg ⊢
    by_cases hic : i = c
    · subst hic
      have hl1 : (listed.setIfInBounds i true).getD i false = true := by simp [hs, hil]
      unfold phase at hp
      rw [if_neg (by simp [hl0])] at hp
      have hw : Region.wanted oi (yielded ops a.tmps) = true := by simp [Region.wanted, hu oi hoi]
      rw [if_pos hw] at hg ⊢
      obtain ⟨v, hv, hk⟩ := hg
      unfold oneG at hv
      rw [if_neg (Nat.lt_irrefl _), if_pos rfl] at hv
      exact .inl (write_upon (fun w' hc' => next _ w' (by unfold phase; rw [if_pos hl1]; exact hc') hk) (hv w hp))
    · have hlc : (listed.setIfInBounds i true).getD c false = listed.getD c false := getD_set_ne false hic
      by_cases hw : Region.wanted oi (yielded ops a.tmps) = true
      · rw [if_pos hw] at hg ⊢
        obtain ⟨v, hv, hk⟩ := hg
        unfold oneG at hv
        left
        by_cases hlt : i < c
        · have hcl : ¬ listed.getD c false = true := fun hcl => by rw [before_listed hsh hbf hcl i hlt] at hl0; cases hl0
          rw [if_pos hlt] at hv
          unfold phase at hp
          rw [if_neg hcl] at hp
          exact quiet_upon hp (fun w' hc' => next _ w' (by unfold phase; rw [hlc, if_neg hcl]; exact hc') hk) (hv w hp)
        · rw [if_neg hlt, if_neg hic] at hv
          exact pure_upon (next _ w (by unfold phase at hp ⊢; rw [hlc]; exact hp) hk) (hv w)
      · rw [if_neg hw] at hg ⊢
        exact next _ w (by unfold phase at hp ⊢; rw [hlc]; exact hp) hg
theorem region_one (c : Nat) {id : Nat} {Q : Exit → Act → World → Prop} {a : Act} {w : World} {l : List Oper} (C1 : World → Prop) (hm : P.follows .mixedOrders = true) (hB : Region.lexB .any l.toArray = true)
    (hk : ((edgesBack .any l.toArray && allBefore .any l.toArray c) && match l[c]? with | some o => o.guard.isNone | none => false) = true)
    (h : gWalk (oneG P c (fun w' => ∃ n, w' = w.drewN n) C1) l.toArray (fun a' => ∀ w', C1 w' → Q .normal a' w') 0 l a) : (Code.region id l.toArray true).wp P Q a w := by
 simp only [Region.lexB, Bool.and_eq_true] at hB
 rw [Bool.and_eq_true, Bool.and_eq_true] at hk
 obtain ⟨⟨hk1, hk3⟩, hk2⟩ := hk
 have hcl : c < l.length := by {
 cases ho : l[c]? with
 | none => rw [ho] at hk2; cases hk2
 | some o => exact (List.getElem?_eq_some_iff.1 ho).1
 }
 have hg : ∀ o, l.toArray[c]? = some o → o.guard = none := by {
 intro o ho
 simp only [List.getElem?_toArray] at ho
 rw [ho] at hk2
 simpa using hk2
 }
 refine wp_region_any hm (any_of_gAny (Q := fun a' => ∀ w', C1 w' → Q .normal a' w') (C0 := fun w' => ∃ n, w' = w.drewN n) (C1 := C1) (c := c) (by simpa using hcl) hk1 hk3 hg (fun _ w' hw' h => h w' hw') _ _ _ _ (by simp) ?_ ?_ ?_)
 · intro j oj _ hl; rw [rep_false] at hl; cases hl
 {
 unfold phase
 rw [if_neg (by simp [hcl])]
 exact ⟨1, rfl⟩
 }
 {
 have := gAny_lex (G := oneG P c (fun w' => ∃ n, w' = w.drewN n) C1) (md := .any) hB.1 l 0 (Array.replicate l.toArray.size false) a (by simp) (by simpa using hB.2) h
 simpa using this
 }
theorem gWalk_pre {C0 C1 : World → Prop} {Q : Act → Prop} {k : Nat} {o : Oper} {rest : List Oper} {a : Act} (hk : k < c)
    (h : ∀ K : Act → Prop, (∀ a, gWalk (oneG P c C0 C1) ops Q (k + 1) rest a → K a) → if Region.wanted o (yielded ops a.tmps) then o.quiet P a C0 K else K (a.put o.dst undef)) : gWalk (oneG P c C0 C1) ops Q k (o :: rest) a := by
 have h := h _ (fun _ h => h)
 unfold gWalk
 by_cases hw : Region.wanted o (yielded ops a.tmps) = true
 {
 rw [if_pos hw] at *
 obtain ⟨v, h1, h2⟩ := h
 refine ⟨v, ?_, h2⟩
 unfold oneG; rw [if_pos hk]; exact h1
 }
 · rw [if_neg hw] at *; exact h
theorem gWalk_write {C0 C1 : World → Prop} {Q : Act → Prop} {o : Oper} {rest : List Oper} {a : Act} (hg : o.guard = none) (v : Value)
    (h0 : ∀ w, C0 w → writeUpon P C1 v ((execOp a.eval o).run P w)) (h : gWalk (oneG P c C0 C1) ops Q (c + 1) rest (a.put o.dst v)) : gWalk (oneG P c C0 C1) ops Q c (o :: rest) a := by
 unfold gWalk
 rw [if_pos (by simp [Region.wanted, hg])]
 refine ⟨v, ?_, h⟩
 unfold oneG
 rw [if_neg (Nat.lt_irrefl _), if_pos rfl]
 exact h0
def Oper.pure_ (P : Program) (o : Oper) (a : Act) (next : Act → Prop) : Prop := ∃ v, (∀ w, pureUpon w v ((execOp a.eval o).run P w)) ∧ next (a.put o.dst v)
theorem gWalk_post {C0 C1 : World → Prop} {Q : Act → Prop} {k : Nat} {o : Oper} {rest : List Oper} {a : Act} (hk : c < k)
    (h : ∀ K : Act → Prop, (∀ a, gWalk (oneG P c C0 C1) ops Q (k + 1) rest a → K a) → if Region.wanted o (yielded ops a.tmps) then Oper.pure_ P o a K else K (a.put o.dst undef)) : gWalk (oneG P c C0 C1) ops Q k (o :: rest) a := by
 have h := h _ (fun _ h => h)
 unfold gWalk
 by_cases hw : Region.wanted o (yielded ops a.tmps) = true
 {
 rw [if_pos hw] at *
 obtain ⟨v, h1, h2⟩ := h
 refine ⟨v, ?_, h2⟩
 unfold oneG; rw [if_neg (by omega), if_neg (by omega)]; exact h1
 }
 · rw [if_neg hw] at *; exact h
theorem gWalk_nil {C0 C1 : World → Prop} {Q : Act → Prop} {k : Nat} {a : Act} (h : Q a) : gWalk (oneG P c C0 C1) ops Q k [] a := h
attribute [go_sem] Oper.pure_ pureUpon writeUpon
end
end Go.Proofs.YtgmnemndjjmgkaaGreat

/- A region that draws its order, whose operations change the world at several places, which wait for each other in a row: one walk in the order of the text serves every order. -/
namespace Go.Proofs.YtgmnemndjjmgkaaGreat
open Go.RowKit
def manyG (P : Program) (cs ps : List Nat) (C : Nat → World → Prop) (i : Nat) (s : Sem Go.Next) (v : Value) : Prop :=
  if i < cs.headD 0 ∧ i ∉ ps then ∀ w, C 0 w → Oper.quietUpon P (C 0) w v (s.run P w)
  else if i ∈ cs then ∀ w, C (cs.idxOf i) w → writeUpon P (C (cs.idxOf i + 1)) v (s.run P w) else ∀ w, pureUpon w v (s.run P w)
section
variable {P : Program} {ops : Array Oper} {md : Region.Mode} {C : Nat → World → Prop} {cs ps : List Nat}
def rowB (md : Region.Mode) (ops : Array Oper) : List Nat → Bool
  | [] => true
  | [c] => decide (c < ops.size)
  | c :: d :: r => decide (c < ops.size) && decide (c < d) && (marks md ops (d + 1) ((Array.replicate ops.size false).setIfInBounds d true)).getD c false && rowB md ops (d :: r)
theorem waits_listed {L : Array Bool} (hL : Shut md ops L) {c d : Nat} (hB : (marks md ops (d + 1) ((Array.replicate ops.size false).setIfInBounds d true)).getD c false = true) (hd : L.getD d false = true) : L.getD c false = true := by
 refine marks_sub hL (d + 1) _ ?_ c hB
 intro j hj
 by_cases e : d = j
 · rw [← e]; exact hd
 {
 rw [getD_set_ne false e, rep_false] at hj
 cases hj
 }
def cnt (cs : List Nat) (L : Array Bool) : Nat := cs.countP (fun c => L.getD c false)
theorem row_lt : ∀ {cs : List Nat}, rowB md ops cs = true → ∀ c ∈ cs, c < ops.size
  | [], _, c, hc => by cases hc
  | [d], h, c, hc => by simp [rowB] at h; simp at hc; omega
  | d :: e :: r, h, c, hc => by
    simp only [rowB, Bool.and_eq_true, decide_eq_true_eq] at h
    rcases List.mem_cons.1 hc with rfl | hc
    · exact h.1.1.1
    · exact row_lt h.2 c hc
theorem row_sorted : ∀ {cs : List Nat}, rowB md ops cs = true → cs.Pairwise (· < ·)
  | [], _ => .nil
  | [d], _ => by simp
  | d :: e :: r, h => by
    simp only [rowB, Bool.and_eq_true, decide_eq_true_eq] at h
    have ih := row_sorted h.2
    refine List.Pairwise.cons (fun x hx => ?_) ih
    rcases List.mem_cons.1 hx with rfl | hx
    · exact h.1.1.2
    · exact Nat.lt_trans h.1.1.2 (List.rel_of_pairwise_cons ih hx)
theorem row_prefix {L : Array Bool} (hL : Shut md ops L) : ∀ {cs : List Nat}, rowB md ops cs = true → ∀ q c, cs[q]? = some c → (L.getD c false = true ↔ q < cnt cs L)
  | [], _, q, c, h => by simp at h
  | [d], _, q, c, h => by
    cases q with
    | succ q => simp at h
    | zero =>
      simp at h; subst h
      simp only [cnt, List.countP_cons, List.countP_nil]
      by_cases hd : L.getD d false = true <;> simp [hd]
  | d :: e :: r, hB, q, c, h => by
    simp only [rowB, Bool.and_eq_true] at hB
    have ih := row_prefix hL hB.2
    by_cases hd : L.getD d false = true
    · have hcnt : cnt (d :: e :: r) L = cnt (e :: r) L + 1 := by simp only [cnt, List.countP_cons, hd]; simp
      cases q with
      | zero => simp at h; subst h; rw [hcnt]; simp [hd]
      | succ q =>
        have := ih q c (by simpa using h)
        rw [hcnt, this]; omega
    · have he : ¬ L.getD e false = true := fun he => hd (waits_listed hL hB.1.2 he)
      have h0 : cnt (e :: r) L = 0 := by
        have := ih 0 e (by simp)
        apply Classical.byContradiction
        intro hne
        exact he (this.2 (by omega))
      have hcnt : cnt (d :: e :: r) L = 0 := by
        have : cnt (d :: e :: r) L = cnt (e :: r) L := by simp only [cnt, List.countP_cons]; simp [hd]
        rw [this, h0]
      rw [hcnt]
      cases q with
      | zero => simp at h; subst h; simp [hd]
      | succ q =>
        have := ih q c (by simpa using h)
        rw [h0] at this
        rw [this]; omega
theorem cnt_set {L : Array Bool} {i : Nat} (hs : i < L.size) (hl : L.getD i false = false) (hnd : cs.Nodup) (hi : i ∈ cs) : cnt cs (L.setIfInBounds i true) = cnt cs L + 1 := by
 unfold cnt
 induction cs with
 | nil => cases hi
 | cons d r ih => {
 simp only [List.nodup_cons] at hnd
 simp only [List.countP_cons]
 by_cases e : d = i
 {
 subst e
 have h1 : r.countP (fun c => (L.setIfInBounds d true).getD c false) = r.countP (fun c => L.getD c false) := by {
 apply List.countP_congr
 intro c hc
 rw [getD_set_ne false (show d ≠ c by rintro rfl; exact hnd.1 hc)]
 }
 rw [h1]
 have h2 : (L.setIfInBounds d true).getD d false = true := by simp [hs]
 rw [h2, hl]; simp
 }
 {
 rw [ih hnd.2 ((List.mem_cons.1 hi).resolve_left (fun h => e h.symm)), getD_set_ne false (fun h => e h.symm)]
 omega
 }
 }
theorem cnt_other {L : Array Bool} {i : Nat} (hi : i ∉ cs) : cnt cs (L.setIfInBounds i true) = cnt cs L := by
 unfold cnt
 apply List.countP_congr
 intro c hc
 rw [getD_set_ne false (show i ≠ c by rintro rfl; exact hi hc)]
def allBefore' (md : Region.Mode) (ops : Array Oper) (c : Nat) (ps : List Nat) : Bool := (List.range c).all fun i => ps.contains i || (marks md ops (c + 1) ((Array.replicate ops.size false).setIfInBounds c true)).getD i false
theorem before_listed' {L : Array Bool} {c : Nat} (hL : Shut md ops L) (hB : allBefore' md ops c ps = true) (hc : L.getD c false = true) : ∀ i, i < c ∧ i ∉ ps → L.getD i false = true := by
 intro i hi
 have h1 := List.all_eq_true.1 hB i (by simpa using hi.1)
 simp only [Bool.or_eq_true, List.contains_iff_mem] at h1
 refine marks_sub hL (c + 1) _ ?_ i (h1.resolve_left hi.2)
 intro j hj
 by_cases e : c = j
 · rw [← e]; exact hc
 {
 rw [getD_set_ne false e, rep_false] at hj
 cases hj
 }
theorem any_of_gMany (hrow : rowB md ops cs = true) (hne : cs ≠ []) (hb : edgesBack md ops = true) (hbf : allBefore' md ops (cs.headD 0) ps = true) (hu : ∀ c ∈ cs, ∀ o, ops[c]? = some o → o.guard = none) {Q : Act → Prop} {Q' : Exit → Act → World → Prop} (hQ : ∀ a w, C cs.length w → Q a → Q' .normal a w) : ∀ (fuel : Nat) (listed : Array Bool) (a : Act) (w : World), listed.size = ops.size →
    Shut md ops listed → C (cnt cs listed) w → gAny (manyG P cs ps C) md ops Q fuel listed a → wpAny P md ops Q' fuel listed a w := by
 have hend : ∀ listed : Array Bool, listed.size = ops.size → Region.ready md ops listed = [] → cnt cs listed = cs.length := by {
 intro listed hs h0
 unfold cnt
 rw [List.countP_eq_length]
 intro c hc
 exact ready_nil hs hb h0 c (row_lt hrow c hc)
 }
 have hnd : cs.Nodup := (row_sorted hrow).imp (fun h => Nat.ne_of_lt h)
 intro fuel
 induction fuel with
 | zero => {
 intro listed a w hs _ hp h
 exact ⟨h.1, hQ _ _ (by rw [hend listed hs h.1] at hp; exact hp) h.2⟩
 }
 | succ fuel ih => {
 intro listed a w hs hsh hp h
 refine ⟨fun h0 => hQ _ _ (by rw [hend listed hs h0] at hp; exact hp) (h.1 h0), fun i hi => ?_⟩
 have hg := h.2 i hi
 obtain ⟨hun, oi, hoi, _⟩ := mem_ready.1 hi
 have hil : i < ops.size := (Array.getElem?_eq_some_iff.1 hoi).1
 have hs' : (listed.setIfInBounds i true).size = ops.size := by simp [hs]
 have hl0 : listed.getD i false = false := by simp [hs, hil] at hun ⊢; exact hun
 have next : ∀ a' w', C (cnt cs (listed.setIfInBounds i true)) w' → gAny (manyG P cs ps C) md ops Q fuel (listed.setIfInBounds i true) a' → wpAny P md ops Q' fuel (listed.setIfInBounds i true) a' w' :=
   fun a' w' hp' hg' => ih _ a' w' hs' (hsh.set hi) hp' hg'
 unfold gOp at hg
 unfold wpOp
 simp only [hoi] at hg ⊢
 by_cases hmem : i ∈ cs
 {
 have hcs := cnt_set (L := listed) (by omega) hl0 hnd hmem
 have hhead : ¬ i < cs.headD 0 := by {
 cases hcc : cs with
 | nil => exact absurd hcc hne
 | cons d r => {
 rw [hcc] at hmem
 have := row_sorted hrow
 rw [hcc] at this
 rcases List.mem_cons.1 hmem with rfl | hm
 · simp
 · have := List.rel_of_pairwise_cons this hm; simp; omega
 }
 }
 have hidx : cs.idxOf i = cnt cs listed := by {
 have hlt := List.idxOf_lt_length_of_mem hmem
 have hget : cs[cs.idxOf i]? = some i := by rw [List.getElem?_eq_getElem hlt, List.getElem_idxOf]
 have h1 := row_prefix hsh hrow _ _ hget
 rw [hl0] at h1
 have hge : cnt cs listed ≤ cs.idxOf i := by {
 apply Classical.byContradiction
 intro hx
 have := h1.2 (by omega)
 cases this
 }
 have h2 := row_prefix (hsh.set hi) hrow _ _ hget
 rw [hcs] at h2
 have h3 : (listed.setIfInBounds i true).getD i false = true := by simp [hs, hil]
 have := h2.1 h3
 omega
 }
 have hw : Region.wanted oi (yielded ops a.tmps) = true := by simp [Region.wanted, hu i hmem oi hoi]
 rw [if_pos hw] at hg ⊢
 obtain ⟨v, hv, hk⟩ := hg
 unfold manyG at hv
 rw [if_neg (fun hx => hhead hx.1), if_pos hmem, hidx] at hv
 exact .inl (write_upon (fun w' hc' => next _ w' (by rw [hcs]; exact hc') hk) (hv w hp))
 }
 {
 have hcs := cnt_other (L := listed) hmem
 by_cases hw : Region.wanted oi (yielded ops a.tmps) = true
 {
 rw [if_pos hw] at hg ⊢
 obtain ⟨v, hv, hk⟩ := hg
 unfold manyG at hv
 left
 by_cases hlt : i < cs.headD 0 ∧ i ∉ ps
 {
 have h0 : cnt cs listed = 0 := by {
 cases hcc : cs with
 | nil => exact absurd hcc hne
 | cons d r => {
 apply Classical.byContradiction
 intro hx
 have h1 := (row_prefix hsh hrow 0 d (by rw [hcc]; rfl)).2 (by rw [hcc]; omega)
 rw [hcc] at hlt hbf
 rw [before_listed' hsh hbf h1 i hlt] at hl0
 cases hl0
 }
 }
 rw [if_pos hlt] at hv
 rw [h0] at hp
 exact quiet_upon hp (fun w' hc' => next _ w' (by rw [hcs, h0]; exact hc') hk) (hv w hp)
 }
 {
 rw [if_neg hlt, if_neg hmem] at hv
 exact pure_upon (next _ w (by rw [hcs]; exact hp) hk) (hv w)
 }
 }
 {
 rw [if_neg hw] at hg ⊢
 exact next _ w (by rw [hcs]; exact hp) hg
 }
 }
 }
theorem region_many (cs ps : List Nat) {id : Nat} {Q : Exit → Act → World → Prop} {a : Act} {w : World} {l : List Oper} (C : Nat → World → Prop) (hC : ∀ w', C 0 w' ↔ ∃ n, w' = w.drewN n) (hm : P.follows .mixedOrders = true) (hB : Region.lexB .any l.toArray = true)
    (hk : (((edgesBack .any l.toArray && allBefore' .any l.toArray (cs.headD 0) ps) && (rowB .any l.toArray cs && !cs.isEmpty)) && cs.all fun c => match l[c]? with | some o => o.guard.isNone | none => false) = true)
    (h : gWalk (manyG P cs ps C) l.toArray (fun a' => ∀ w', C cs.length w' → Q .normal a' w') 0 l a) : (Code.region id l.toArray true).wp P Q a w := by
 simp only [Region.lexB, Bool.and_eq_true] at hB
 rw [Bool.and_eq_true, Bool.and_eq_true, Bool.and_eq_true, Bool.and_eq_true] at hk
 obtain ⟨⟨⟨hk1, hk3⟩, hk4, hk5⟩, hk2⟩ := hk
 have hne : cs ≠ [] := by rintro rfl; simp at hk5
 have hg : ∀ c ∈ cs, ∀ o, l.toArray[c]? = some o → o.guard = none := by {
 intro c hc o ho
 have h1 := List.all_eq_true.1 hk2 c hc
 simp only [List.getElem?_toArray] at ho
 rw [ho] at h1
 simpa using h1
 }
 refine wp_region_any hm (any_of_gMany (Q := fun a' => ∀ w', C cs.length w' → Q .normal a' w') (C := C) (cs := cs) (ps := ps) hk4 hne hk1 hk3 hg (fun _ w' hw' h => h w' hw') _ _ _ _ (by simp) ?_ ?_ ?_)
 · intro j oj _ hl; rw [rep_false] at hl; cases hl
 {
 have : cnt cs (Array.replicate l.toArray.size false) = 0 := by unfold cnt; rw [List.countP_eq_zero]; intro c _; rw [rep_false]; simp
 rw [this]
 exact (hC _).2 ⟨1, rfl⟩
 }
 {
 have := gAny_lex (G := manyG P cs ps C) (md := .any) hB.1 l 0 (Array.replicate l.toArray.size false) a (by simp) (by simpa using hB.2) h
 simpa using this
 }
theorem mWalk_pre {Q : Act → Prop} {k : Nat} {o : Oper} {rest : List Oper} {a : Act} (hk : decide (k < cs.headD 0 ∧ k ∉ ps) = true)
    (h : ∀ K : Act → Prop, (∀ a, gWalk (manyG P cs ps C) ops Q (k + 1) rest a → K a) → if Region.wanted o (yielded ops a.tmps) then o.quiet P a (C 0) K else K (a.put o.dst undef)) : gWalk (manyG P cs ps C) ops Q k (o :: rest) a := by
 have h := h _ (fun _ h => h)
 unfold gWalk
 by_cases hw : Region.wanted o (yielded ops a.tmps) = true
 {
 rw [if_pos hw] at *
 obtain ⟨v, h1, h2⟩ := h
 refine ⟨v, ?_, h2⟩
 unfold manyG; rw [if_pos (of_decide_eq_true hk)]; exact h1
 }
 · rw [if_neg hw] at *; exact h
theorem mWalk_write {Q : Act → Prop} {k q : Nat} {o : Oper} {rest : List Oper} {a : Act} (hk : (decide (¬ (k < cs.headD 0 ∧ k ∉ ps)) && decide (k ∈ cs) && decide (cs.idxOf k = q)) = true) (hg : o.guard = none) (v : Value)
    (h0 : ∀ w, C q w → writeUpon P (C (q + 1)) v ((execOp a.eval o).run P w)) (h : gWalk (manyG P cs ps C) ops Q (k + 1) rest (a.put o.dst v)) : gWalk (manyG P cs ps C) ops Q k (o :: rest) a := by
 simp only [Bool.and_eq_true, decide_eq_true_eq] at hk
 unfold gWalk
 rw [if_pos (by simp [Region.wanted, hg])]
 refine ⟨v, ?_, h⟩
 unfold manyG
 rw [if_neg hk.1.1, if_pos hk.1.2, hk.2]
 exact h0
theorem mWalk_post {Q : Act → Prop} {k : Nat} {o : Oper} {rest : List Oper} {a : Act} (hk : (decide (¬ (k < cs.headD 0 ∧ k ∉ ps)) && decide (k ∉ cs)) = true)
    (h : ∀ K : Act → Prop, (∀ a, gWalk (manyG P cs ps C) ops Q (k + 1) rest a → K a) → if Region.wanted o (yielded ops a.tmps) then Oper.pure_ P o a K else K (a.put o.dst undef)) : gWalk (manyG P cs ps C) ops Q k (o :: rest) a := by
 simp only [Bool.and_eq_true, decide_eq_true_eq] at hk
 have h := h _ (fun _ h => h)
 unfold gWalk
 by_cases hw : Region.wanted o (yielded ops a.tmps) = true
 {
 rw [if_pos hw] at *
 obtain ⟨v, h1, h2⟩ := h
 refine ⟨v, ?_, h2⟩
 unfold manyG; rw [if_neg hk.1, if_neg hk.2]; exact h1
 }
 · rw [if_neg hw] at *; exact h
theorem mWalk_nil {Q : Act → Prop} {k : Nat} {a : Act} (h : Q a) : gWalk (manyG P cs ps C) ops Q k [] a := h
end
end Go.Proofs.YtgmnemndjjmgkaaGreat

/- A region that draws its order, whose operations give the same values in every world of a class and keep the class: one walk in the order of the text serves every order. -/
namespace Go.Proofs.YtgmnemndjjmgkaaGreat
open Go.RowKit
section
variable {P : Program} {ops : Array Oper} {C : World → Prop}
theorem region_class {id : Nat} {Q : Exit → Act → World → Prop} {a : Act} {w : World} {l : List Oper} (C : World → Prop) (hm : P.follows .mixedOrders = true) (hB : Region.lexB .any l.toArray = true) (hC : C w.drew)
    (h : wpQuiet P l.toArray C (fun a' => ∀ w', C w' → Q .normal a' w') l a) : (Code.region id l.toArray true).wp P Q a w :=
  wp_region_quiet hm hB hC (by simpa using h)
theorem cWalk_pure {Q : Act → Prop} {o : Oper} {rest : List Oper} {a : Act}
    (h : ∀ K : Act → Prop, (∀ a, wpQuiet P ops C Q rest a → K a) → if Region.wanted o (yielded ops a.tmps) then Oper.pure_ P o a K else K (a.put o.dst undef)) : wpQuiet P ops C Q (o :: rest) a := by
 have h := h _ (fun _ h => h)
 unfold wpQuiet
 by_cases hw : Region.wanted o (yielded ops a.tmps) = true
 {
 rw [if_pos hw] at *
 obtain ⟨v, h1, h2⟩ := h
 refine ⟨v, fun w _ => ?_, h2⟩
 have := h1 w
 unfold Oper.quietAt
 revert this
 generalize (execOp a.eval o).run P w = r
 intro this
 cases r with
 | halt x w' => exact this.elim
 | ok x w' => {
 cases x with
 | value u => exact ⟨this.1, this.2⟩
 | skip => exact ⟨this.1, this.2⟩
 | _ => exact this.elim
 }
 }
 · rw [if_neg hw] at *; exact h
structure CW (P : Program) (ops : Array Oper) (C : World → Prop) (Q : Act → Prop) (l : List Oper) (a : Act) : Prop where
  out : wpQuiet P ops C Q l a
theorem region_cw {id : Nat} {Q : Exit → Act → World → Prop} {a : Act} {w : World} {l : List Oper} (C : World → Prop) (hm : P.follows .mixedOrders = true) (hB : Region.lexB .any l.toArray = true) (hC : C w.drew)
    (h : CW P l.toArray C (fun a' => ∀ w', C w' → Q .normal a' w') l a) : (Code.region id l.toArray true).wp P Q a w := region_class C hm hB hC h.out
theorem cw_skip {Q : Act → Prop} {o : Oper} {rest : List Oper} {a : Act} (hw : Region.wanted o (yielded ops a.tmps) = false) (h : CW P ops C Q rest (a.put o.dst undef)) : CW P ops C Q (o :: rest) a := by
 refine ⟨?_⟩
 unfold wpQuiet
 rw [if_neg (by rw [hw]; exact Bool.false_ne_true)]
 exact h.out
theorem cw_pure {Q : Act → Prop} {o : Oper} {rest : List Oper} {a : Act} (hw : Region.wanted o (yielded ops a.tmps) = true)
    (h : ∀ K : Act → Prop, Hid (∀ a, CW P ops C Q rest a → K a) → Oper.pure_ P o a K) : CW P ops C Q (o :: rest) a :=
  ⟨cWalk_pure fun K hK => by rw [if_pos hw]; exact h K (Lib.hid (fun a h => hK a h.out))⟩
theorem cw_val {Q : Act → Prop} {o : Oper} {rest : List Oper} {a : Act} (hw : Region.wanted o (yielded ops a.tmps) = true) (v : Value)
    (h0 : ∀ w, C w → Oper.quietUpon P C w v ((execOp a.eval o).run P w)) (h : CW P ops C Q rest (a.put o.dst v)) : CW P ops C Q (o :: rest) a := by
 refine ⟨?_⟩
 unfold wpQuiet
 rw [if_pos hw]
 exact ⟨v, h0, h.out⟩
theorem cw_nil {Q : Act → Prop} {a : Act} (h : Q a) : CW P ops C Q [] a := ⟨h⟩
end
end Go.Proofs.YtgmnemndjjmgkaaGreat

/- 'append(nil, s...)': a copy of a row of one's own. -/
namespace Go.Proofs.YtgmnemndjjmgkaaGreat
open Go.RowKit
end Go.Proofs.YtgmnemndjjmgkaaGreat

namespace Go.Proofs.YtgmnemndjjmgkaaGreat
open Go.RowKit
theorem wp_app {P : Program} {w : World} {o : Oper} {a : Act} {K : Act → World → Prop} {Q : Exit → Act → World → Prop} (s x : Operand) (t : TypeId)
    (ho : o.op = .call { callee := .builtin .append, args := #[s, x], argTypes := #[t, t] })
    (e : TypeId) (z : Value) (size bytes : Nat) (ht : P.underlying t = some (.slice e)) (hinfo : (P.info? e).map (fun i => (i.zero, i.size, i.bytes)) = some (some z, size, bytes)) (hzs : z.cells.size = size) (hsz : 0 < size)
    (v : Value) (n : Nat) (xs : List Value) (hs : a.eval s = v) (hown : w.ownsRow 0 e size v n xs)
    (b : Nat) (et : TypeId) (news : List Value) (hx : a.eval x = .slice (some ⟨b, 0, none⟩) 1 1) (hb : Blk w b et news) (hl : news.length = size) (h1 : ∀ u ∈ news, u.oneCell' = true)
    (hn : n + 1 ≤ 4294967296) (hby : bytes ≤ 1024)
    (h : ∀ g cap w', w'.ownsRow 0 e size (.slice (some ⟨g, 0, none⟩) (n + 1) cap) (n + 1) (xs ++ news) → w.grownBy w' v.ownBlock → (v.ownBlock = some g ∨ w.heap.size ≤ g) →
      K (a.put o.dst (.slice (some ⟨g, 0, none⟩) (n + 1) cap)) w') : o.wp P a w K Q := by
 obtain ⟨i0, hi, hz0, hz1, hz2⟩ := info_parts hinfo
 have hbb : (n + 1) * bytes ≤ 140737488355328 := by {
 have : (n + 1) * bytes ≤ 4294967296 * 1024 := Nat.mul_le_mul hn hby
 omega
 }
 obtain ⟨g, cap, w', hr, h2, h3, h4⟩ := run_app (P := P) w t o.type e i0 z size bytes ht hi hz0 hz1 hz2 hzs hsz v n xs hown ⟨b, 0, none⟩ 1 1 news (by rw [Nat.one_mul]; exact hl) (fun j u hj => by rw [Addr.add_lit, Nat.zero_add, hb.cell]; exact hj) h1 (by decide) (by unfold maxLen; omega) hbb
 unfold Oper.wp execOp
 simp only [ho, resolve, invoke, builtin, Sem.run_bind, Sem.run_pure, Result.andThen_ok, List.map_toArray, List.map_cons, List.map_nil, hs, hx, hr]
 exact h g cap w' h2 h3 h4
theorem wpList_appK {P : Program} {w : World} {ops : Array Oper} {rest : List Oper} {o : Oper} {a : Act} {Q : Exit → Act → World → Prop} (hgd : o.guard = none) (s x : Operand) (t : TypeId)
    (ho : o.op = .call { callee := .builtin .append, args := #[s, x], argTypes := #[t, t] })
    (e : TypeId) (z : Value) (size bytes : Nat) (ht : P.underlying t = some (.slice e)) (hinfo : (P.info? e).map (fun i => (i.zero, i.size, i.bytes)) = some (some z, size, bytes)) (hzs : z.cells.size = size) (hsz : 0 < size)
    (v : Value) (n : Nat) (xs : List Value) (hs : a.eval s = v) (hown : w.ownsRow 0 e size v n xs)
    (b : Nat) (et : TypeId) (news : List Value) (hx : a.eval x = .slice (some ⟨b, 0, none⟩) 1 1) (hb : Blk w b et news) (hl : news.length = size) (h1 : ∀ u ∈ news, u.oneCell' = true)
    (hn : n + 1 ≤ 4294967296) (hby : bytes ≤ 1024)
    (h : ∀ g cap w', w'.ownsRow 0 e size (.slice (some ⟨g, 0, none⟩) (n + 1) cap) (n + 1) (xs ++ news) → w.grownBy w' v.ownBlock → (v.ownBlock = some g ∨ w.heap.size ≤ g) →
      wpList P ops Q rest (a.put o.dst (.slice (some ⟨g, 0, none⟩) (n + 1) cap)) w') : wpList P ops Q (o :: rest) a w :=
  wpList_plain hgd fun _ hK => wp_app s x t ho e z size bytes ht hinfo hzs hsz v n xs hs hown b et news hx hb hl h1 hn hby fun g cap w' h2 h3 h4 => hK _ _ (h g cap w' h2 h3 h4)
theorem step_appK {P : Program} {w : World} {ops : Array Oper} {o : Oper} {a : Act} {K : Act → World → Prop} {Q : Exit → Act → World → Prop} {E : Prop} (hgd : o.guard = none) (s x : Operand) (t : TypeId)
    (ho : o.op = .call { callee := .builtin .append, args := #[s, x], argTypes := #[t, t] })
    (e : TypeId) (z : Value) (size bytes : Nat) (ht : P.underlying t = some (.slice e)) (hinfo : (P.info? e).map (fun i => (i.zero, i.size, i.bytes)) = some (some z, size, bytes)) (hzs : z.cells.size = size) (hsz : 0 < size)
    (v : Value) (n : Nat) (xs : List Value) (hs : a.eval s = v) (hown : w.ownsRow 0 e size v n xs)
    (b : Nat) (et : TypeId) (news : List Value) (hx : a.eval x = .slice (some ⟨b, 0, none⟩) 1 1) (hb : Blk w b et news) (hl : news.length = size) (h1 : ∀ u ∈ news, u.oneCell' = true)
    (hn : n + 1 ≤ 4294967296) (hby : bytes ≤ 1024)
    (h : ∀ g cap w', w'.ownsRow 0 e size (.slice (some ⟨g, 0, none⟩) (n + 1) cap) (n + 1) (xs ++ news) → w.grownBy w' v.ownBlock → (v.ownBlock = some g ∨ w.heap.size ≤ g) →
      K (a.put o.dst (.slice (some ⟨g, 0, none⟩) (n + 1) cap)) w') :
    if Region.wanted o (yielded ops a.tmps) = true then Oper.wp P o a w K Q else E := by
 rw [if_pos (by simp [Region.wanted, hgd])]
 exact wp_app s x t ho e z size bytes ht hinfo hzs hsz v n xs hs hown b et news hx hb hl h1 hn hby h
end Go.Proofs.YtgmnemndjjmgkaaGreat
