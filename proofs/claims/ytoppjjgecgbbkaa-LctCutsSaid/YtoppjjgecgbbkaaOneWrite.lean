/- A region that draws its order, of whose operations ONE changes the world (a call, a store, an append): one walk in the order of the text serves every order. -/
import Derived.Test.YtoppjjgecgbbkaaBase
import Derived.Deep.Quiet
namespace Go.Proofs.Ytoppjjgecgbbkaa
open Go.RowKit

section
variable {P : Program} {ops : Array Oper} {md : Region.Mode} (G : Nat → Sem Next → Value → Prop)

/-- Operation number i comes up in the state a: G says what it yields. -/
def gOp (ops : Array Oper) (i : Nat) (K : Act → Prop) (a : Act) : Prop :=
  match ops[i]? with
  | none => K a
  | some o => if Region.wanted o (yielded ops a.tmps) then ∃ v, G i (execOp a.eval o) v ∧ K (a.put o.dst v) else K (a.put o.dst undef)

/-- The walk in the order of the text. -/
def gWalk (ops : Array Oper) (Q : Act → Prop) : Nat → List Oper → Act → Prop
  | _, [], a => Q a
  | k, o :: rest, a => if Region.wanted o (yielded ops a.tmps) then ∃ v, G k (execOp a.eval o) v ∧ gWalk ops Q (k + 1) rest (a.put o.dst v) else gWalk ops Q (k + 1) rest (a.put o.dst undef)

/-- Whatever order is picked from here on. -/
def gAny (md : Region.Mode) (ops : Array Oper) (Q : Act → Prop) : Nat → Array Bool → Act → Prop
  | 0, listed, a => Region.ready md ops listed = [] ∧ Q a
  | fuel + 1, listed, a =>
    (Region.ready md ops listed = [] → Q a) ∧ ∀ i ∈ Region.ready md ops listed, gOp G ops i (gAny md ops Q fuel (listed.setIfInBounds i true)) a

variable {G}

def gYields (G : Nat → Sem Next → Value → Prop) (ops : Array Oper) (i : Nat) (o : Oper) (v : Value) (a : Act) : Prop :=
  (Region.wanted o (yielded ops a.tmps) = true ∧ G i (execOp a.eval o) v) ∨ (Region.wanted o (yielded ops a.tmps) = false ∧ v = undef)

theorem gYields.op {i : Nat} {o : Oper} {v : Value} {a : Act} (hi : ops[i]? = some o) (hy : gYields G ops i o v a) {K : Act → Prop} (h : K (a.put o.dst v)) : gOp G ops i K a := by
  unfold gOp
  simp only [hi]
  rcases hy with ⟨hw, hv⟩ | ⟨hw, rfl⟩
  · rw [if_pos hw]; exact ⟨v, hv, h⟩
  · rw [if_neg (by simp [hw])]; exact h

theorem gYields.same {i : Nat} {o : Oper} {v : Value} {a a' : Act} (hy : gYields G ops i o v a) (he : execOp a'.eval o = execOp a.eval o)
    (hw : Region.wanted o (yielded ops a'.tmps) = Region.wanted o (yielded ops a.tmps)) : gYields G ops i o v a' := by
  unfold gYields at *; rw [he, hw]; exact hy

theorem gOp_mono {i : Nat} {a : Act} {K K' : Act → Prop} (h : ∀ a, K a → K' a) (hh : gOp G ops i K a) : gOp G ops i K' a := by
  unfold gOp at *
  cases ho : ops[i]? with
  | none => simp only [ho] at hh ⊢; exact h _ hh
  | some o =>
    simp only [ho] at hh ⊢
    by_cases hw : Region.wanted o (yielded ops a.tmps) = true
    · rw [if_pos hw] at *; obtain ⟨v, h1, h2⟩ := hh; exact ⟨v, h1, h _ h2⟩
    · rw [if_neg hw] at *; exact h _ hh

theorem gYields_of_op {i : Nat} {o : Oper} {a : Act} {K : Act → Prop} (hi : ops[i]? = some o) (h : gOp G ops i K a) : ∃ v, gYields G ops i o v a ∧ K (a.put o.dst v) := by
  unfold gOp at h
  simp only [hi] at h
  by_cases hw : Region.wanted o (yielded ops a.tmps) = true
  · rw [if_pos hw] at h
    obtain ⟨v, h1, h2⟩ := h
    exact ⟨v, .inl ⟨hw, h1⟩, h2⟩
  · rw [if_neg hw] at h
    exact ⟨undef, .inr ⟨by simpa using hw, rfl⟩, h⟩

theorem gOp_put {i j : Nat} {oi oj : Oper} {v : Value} (hj : ops[j]? = some oj) (hap : oi.apart ops oj = true)
    (hsi : ∀ cs b, oi.op ≠ .select cs b) (hsj : ∀ cs b, oj.op ≠ .select cs b) {K : Act → Prop} {a : Act}
    (hy : gYields G ops i oi v a) (h : gOp G ops j K (a.put oi.dst v)) :
    gOp G ops j (fun a' => gYields G ops i oi v a' ∧ K (a'.put oi.dst v)) a := by
  obtain ⟨h1, h2, h3⟩ := Oper.apart_spec hap
  have keep : ∀ (a : Act), gYields G ops i oi v a → ∀ u, gYields G ops i oi v (a.put oj.dst u) := fun a hy u =>
    hy.same (execOp_put oi hsi a oj.dst u h3) (wanted_put oi a oj.dst u h3)
  unfold gOp at *
  simp only [hj] at *
  rw [wanted_put oj a oi.dst v h1] at h
  by_cases hw : Region.wanted oj (yielded ops a.tmps) = true
  · rw [if_pos hw] at *
    obtain ⟨u, hu, hn⟩ := h
    rw [execOp_put oj hsj a oi.dst v h1] at hu
    exact ⟨u, hu, keep a hy u, by rw [← Act.put_comm a v u h2]; exact hn⟩
  · rw [if_neg hw] at *
    exact ⟨keep a hy _, by rw [← Act.put_comm a v undef h2]; exact h⟩

theorem gAny_first {Q : Act → Prop} {i : Nat} {oi : Oper} {v : Value} (hi : ops[i]? = some oi) (hsel : ∀ (j : Nat) (o : Oper) cs b, ops[j]? = some o → o.op ≠ .select cs b) :
    ∀ (fuel : Nat) (listed : Array Bool) (a : Act),
      (∀ j oj, ops[j]? = some oj → j ≠ i → listed.getD j true = false → (∀ e ∈ oj.after, Region.binds md e = true → e.on ≠ i) → oi.apart ops oj = true) →
      i ∈ Region.ready md ops listed → gYields G ops i oi v a →
      gAny G md ops Q fuel (listed.setIfInBounds i true) (a.put oi.dst v) → gAny G md ops Q (fuel + 1) listed a := by
  intro fuel
  induction fuel with
  | zero =>
    intro listed a _ hr hy H
    refine ⟨fun h => (by rw [h] at hr; cases hr), fun j hj => ?_⟩
    by_cases hji : j = i
    · subst hji; exact hy.op hi H
    · have := ready_mono hj hji
      rw [H.1] at this
      cases this
  | succ fuel ih =>
    intro listed a hfree hr hy H
    refine ⟨fun h => (by rw [h] at hr; cases hr), fun j hj => ?_⟩
    by_cases hji : j = i
    · subst hji; exact hy.op hi H
    · have h1 := H.2 j (ready_mono hj hji)
      obtain ⟨hjun, oj, hoj, hall⟩ := mem_ready.1 hj
      have hnot : ∀ e ∈ oj.after, Region.binds md e = true → e.on ≠ i := fun e he hb heq => by
        have h1 := hall e he hb
        have h0 := (mem_ready.1 hr).1
        rw [heq] at h1
        rcases Nat.lt_or_ge i listed.size with h' | h'
        · simp [h'] at h0 h1; rw [h0] at h1; cases h1
        · simp [Array.getElem?_eq_none h'] at h1
      have h2 := gOp_put hoj (hfree j oj hoj hji hjun hnot) (fun cs b => hsel i oi cs b hi) (fun cs b => hsel j oj cs b hoj) hy h1
      have hfree' : ∀ k ok, ops[k]? = some ok → k ≠ i → (listed.setIfInBounds j true).getD k true = false →
          (∀ e ∈ ok.after, Region.binds md e = true → e.on ≠ i) → oi.apart ops ok = true := fun k ok hk hki hun hno => by
        refine hfree k ok hk hki ?_ hno
        by_cases hjk : j = k
        · subst hjk; exact hjun
        · rw [getD_set_ne true hjk] at hun; exact hun
      refine gOp_mono (fun a' h3 => ih (listed.setIfInBounds j true) a' hfree' (ready_mono hr (Ne.symm hji)) h3.1 ?_) h2
      rw [Array.setIfInBounds_comm _ _ hji]
      exact h3.2

theorem gAny_lex {Q : Act → Prop} (hs : Region.noSelect ops = true) : ∀ (l : List Oper) (k : Nat) (listed : Array Bool) (a : Act), (∀ j, l[j]? = ops[k + j]?) →
    Region.lexFrom md ops l.length k listed = true → gWalk G ops Q k l a → gAny G md ops Q l.length listed a
  | [], _, _, _, _, hB, h => ⟨by simpa [Region.lexFrom] using hB, h⟩
  | o :: l, k, listed, a, hl, hB, h => by
    have h0 : ops[k]? = some o := by simpa using (hl 0).symm
    simp only [List.length_cons, Region.lexFrom, Bool.and_eq_true] at hB
    obtain ⟨⟨hr, hf⟩, hB'⟩ := hB
    have hst : gOp G ops k (gWalk G ops Q (k + 1) l) a := by unfold gOp; simp only [h0]; exact h
    obtain ⟨v, hy, hK⟩ := gYields_of_op h0 hst
    exact gAny_first h0 (Region.noSelect_spec hs) l.length listed a (Region.free_spec h0 hf) (by simpa using hr) hy
      (gAny_lex hs l (k + 1) _ _ (fun j => by have := hl (j + 1); simpa [Nat.add_assoc, Nat.add_comm 1 j] using this) hB' hK)
end

/-- What the operation that changes the world must come to. -/
def writeUpon (P : Program) (C1 : World → Prop) (v : Value) : Result Next → Prop
  | .ok (.value u) w' => u = v ∧ C1 w'
  | .ok .skip w' => v = undef ∧ C1 w'
  | .ok (.enter f args) w' => Calls P f args w' (fun e w'' => e = .returned v ∧ C1 w'')
  | _ => False

/-- An operation that neither reads nor changes the world. -/
def pureUpon (w : World) (v : Value) : Result Next → Prop
  | .ok (.value u) w' => w' = w ∧ u = v
  | .ok .skip w' => w' = w ∧ v = undef
  | _ => False

/-- The operations ahead of number c read; c leads from the class C0 to the class C1; those behind it look at no world. -/
def oneG (P : Program) (c : Nat) (C0 C1 : World → Prop) (i : Nat) (s : Sem Next) (v : Value) : Prop :=
  if i < c then ∀ w, C0 w → Oper.quietUpon P C0 w v (s.run P w) else if i = c then ∀ w, C0 w → writeUpon P C1 v (s.run P w) else ∀ w, pureUpon w v (s.run P w)

theorem quiet_upon {P : Program} {o : Oper} {a : Act} {v : Value} {C : World → Prop} {w : World} {K' : Act → World → Prop} {Q' : Exit → Act → World → Prop} (hw : C w) (h : ∀ w', C w' → K' (a.put o.dst v) w')
    {r : Result Next} (h3 : Oper.quietUpon P C w v r) : o.upon P a K' Q' r := by
  cases r with
  | halt x w' => exact h3.elim
  | ok x w' =>
    cases x with
    | value u => obtain ⟨rfl, rfl⟩ := h3; exact h _ hw
    | skip => obtain ⟨rfl, rfl⟩ := h3; exact h _ hw
    | enter f args =>
      obtain ⟨rfl, hc⟩ := h3
      exact hc.mono fun e w'' ⟨he, hw''⟩ => by subst he; exact h _ hw''
    | _ => exact h3.elim
theorem write_upon {P : Program} {o : Oper} {a : Act} {v : Value} {C : World → Prop} {K' : Act → World → Prop} {Q' : Exit → Act → World → Prop} (h : ∀ w', C w' → K' (a.put o.dst v) w')
    {r : Result Next} (h3 : writeUpon P C v r) : o.upon P a K' Q' r := by
  cases r with
  | halt x w' => exact h3.elim
  | ok x w' =>
    cases x with
    | value u => obtain ⟨rfl, hc⟩ := h3; exact h _ hc
    | skip => obtain ⟨rfl, hc⟩ := h3; exact h _ hc
    | enter f args => exact Calls.mono h3 fun e w'' ⟨he, hw''⟩ => by subst he; exact h _ hw''
    | _ => exact h3.elim

theorem pure_upon {P : Program} {o : Oper} {a : Act} {v : Value} {w : World} {K' : Act → World → Prop} {Q' : Exit → Act → World → Prop} (h : K' (a.put o.dst v) w)
    {r : Result Next} (h3 : pureUpon w v r) : o.upon P a K' Q' r := by
  cases r with
  | halt x w' => exact h3.elim
  | ok x w' =>
    cases x with
    | value u => obtain ⟨rfl, rfl⟩ := h3; exact h
    | skip => obtain ⟨rfl, rfl⟩ := h3; exact h
    | _ => exact h3.elim

section
variable {P : Program} {ops : Array Oper} {md : Region.Mode} {C0 C1 : World → Prop} {c : Nat}

theorem rep_false (m j : Nat) : (Array.replicate m false).getD j false = false := by
  by_cases h : j < m <;> simp [h]

/-- Whatever the marked operations wait for is marked too. -/
def marks (md : Region.Mode) (ops : Array Oper) : Nat → Array Bool → Array Bool
  | 0, S => S
  | j + 1, S => marks md ops j (if S.getD j false then (match ops[j]? with | some o => o.after.toList.foldl (fun S e => if Region.binds md e then S.setIfInBounds e.on true else S) S | none => S) else S)
def allBefore (md : Region.Mode) (ops : Array Oper) (c : Nat) : Bool := (List.range c).all fun i => (marks md ops (c + 1) ((Array.replicate ops.size false).setIfInBounds c true)).getD i false

def Shut (md : Region.Mode) (ops : Array Oper) (L : Array Bool) : Prop := ∀ j oj, ops[j]? = some oj → L.getD j false = true → ∀ e ∈ oj.after, Region.binds md e = true → L.getD e.on false = true

theorem marks_sub {L : Array Bool} (hL : Shut md ops L) : ∀ (j : Nat) (S : Array Bool), (∀ i, S.getD i false = true → L.getD i false = true) → ∀ i, (marks md ops j S).getD i false = true → L.getD i false = true
  | 0, S, h => h
  | j + 1, S, h => by
    unfold marks
    refine marks_sub hL j _ ?_
    by_cases hj : S.getD j false = true
    · rw [if_pos hj]
      cases ho : ops[j]? with
      | none => exact h
      | some o =>
        have hcl := hL j o ho (h j hj)
        have key : ∀ (es : List Edge) (T : Array Bool), (∀ e ∈ es, e ∈ o.after.toList) → (∀ i, T.getD i false = true → L.getD i false = true) →
            ∀ i, (es.foldl (fun S e => if Region.binds md e then S.setIfInBounds e.on true else S) T).getD i false = true → L.getD i false = true := by
          intro es
          induction es with
          | nil => intro T _ hT; exact hT
          | cons e es ih =>
            intro T hes hT
            rw [List.foldl_cons]
            refine ih _ (fun e' he' => hes e' (List.mem_cons_of_mem _ he')) ?_
            by_cases hb : Region.binds md e = true
            · rw [if_pos hb]
              intro i hi
              by_cases hei : e.on = i
              · rw [← hei]; exact hcl e (by simpa using hes e (by simp)) hb
              · rw [getD_set_ne false hei] at hi; exact hT i hi
            · rw [if_neg hb]; exact hT
        exact key _ S (fun e he => he) h
    · rw [if_neg hj]; exact h

theorem before_listed {L : Array Bool} (hL : Shut md ops L) (hB : allBefore md ops c = true) (hc : L.getD c false = true) : ∀ i, i < c → L.getD i false = true := by
  intro i hi
  have h1 := List.all_eq_true.1 hB i (by simpa using hi)
  refine marks_sub hL (c + 1) _ ?_ i h1
  intro j hj
  by_cases e : c = j
  · rw [← e]; exact hc
  · rw [getD_set_ne false e, rep_false] at hj
    cases hj

theorem Shut.set {L : Array Bool} {i : Nat} (h : Shut md ops L) (hi : i ∈ Region.ready md ops L) : Shut md ops (L.setIfInBounds i true) := by
  obtain ⟨_, oi, hoi, hall⟩ := mem_ready.1 hi
  intro j oj hj hl e he hb
  by_cases hij : i = j
  · subst hij
    have : oj = oi := Option.some.inj (hj.symm.trans hoi)
    subst this
    exact getD_set_true (hall e he hb)
  · rw [getD_set_ne false hij] at hl
    exact getD_set_true (h j oj hj hl e he hb)

def phase (c : Nat) (C0 C1 : World → Prop) (listed : Array Bool) (w : World) : Prop := if listed.getD c false = true then C1 w else C0 w

def edgesBack (md : Region.Mode) (ops : Array Oper) : Bool := (List.range ops.size).all fun j => match ops[j]? with
  | some o => o.after.all fun e => !Region.binds md e || decide (e.on < j)
  | none => true

theorem ready_nil {listed : Array Bool} (hs : listed.size = ops.size) (hb : edgesBack md ops = true) (h : Region.ready md ops listed = []) : ∀ j, j < ops.size → listed.getD j false = true := by
  intro j
  induction j using Nat.strongRecOn with
  | _ j ih =>
    intro hj
    apply Classical.byContradiction
    intro hno
    have hun : listed.getD j true = false := by
      simp [hs, hj] at hno ⊢; exact hno
    obtain ⟨o, ho⟩ : ∃ o, ops[j]? = some o := ⟨_, Array.getElem?_eq_getElem hj⟩
    have hin : j ∈ Region.ready md ops listed := by
      refine mem_ready.2 ⟨hun, o, ho, fun e he hbe => ?_⟩
      have h1 := List.all_eq_true.1 hb j (by simpa using hj)
      simp only [ho] at h1
      have h2 := Array.all_eq_true'.1 h1 e he
      simp [hbe] at h2
      exact ih e.on h2 (by omega)
    rw [h] at hin
    cases hin

/-- What stands behind c waits for c, or looks at no world: either way it may come up at any time. -/
theorem any_of_gAny (hc : c < ops.size) (hb : edgesBack md ops = true) (hbf : allBefore md ops c = true) (hu : ∀ o, ops[c]? = some o → o.guard = none) {Q : Act → Prop} {Q' : Exit → Act → World → Prop} (hQ : ∀ a w, C1 w → Q a → Q' .normal a w) : ∀ (fuel : Nat) (listed : Array Bool) (a : Act) (w : World), listed.size = ops.size →
    Shut md ops listed → phase c C0 C1 listed w → gAny (oneG P c C0 C1) md ops Q fuel listed a → wpAny P md ops Q' fuel listed a w
  | 0, listed, a, w, hs, _, hp, h => ⟨h.1, hQ _ _ (by unfold phase at hp; rw [if_pos (ready_nil hs hb h.1 c hc)] at hp; exact hp) h.2⟩
  | fuel + 1, listed, a, w, hs, hsh, hp, h => by
    refine ⟨fun h0 => hQ _ _ (by unfold phase at hp; rw [if_pos (ready_nil hs hb h0 c hc)] at hp; exact hp) (h.1 h0), fun i hi => ?_⟩
    have hg := h.2 i hi
    obtain ⟨hun, oi, hoi, _⟩ := mem_ready.1 hi
    have hil : i < ops.size := (Array.getElem?_eq_some_iff.1 hoi).1
    have hs' : (listed.setIfInBounds i true).size = ops.size := by simp [hs]
    have hl0 : listed.getD i false = false := by
      simp [hs, hil] at hun ⊢; exact hun
    have next : ∀ a' w', phase c C0 C1 (listed.setIfInBounds i true) w' → gAny (oneG P c C0 C1) md ops Q fuel (listed.setIfInBounds i true) a' → wpAny P md ops Q' fuel (listed.setIfInBounds i true) a' w' :=
      fun a' w' hp' hg' => any_of_gAny hc hb hbf hu hQ fuel _ a' w' hs' (hsh.set hi) hp' hg'
    unfold gOp at hg
    unfold wpOp
    simp only [hoi] at hg ⊢
    by_cases hic : i = c
    · subst hic
      have hl1 : (listed.setIfInBounds i true).getD i false = true := by simp [hs, hil]
      unfold phase at hp
      rw [if_neg (by simp [hl0])] at hp
      have hw : Region.wanted oi (yielded ops a.tmps) = true := by simp [Region.wanted, hu oi hoi]
      rw [if_pos hw] at hg ⊢
      obtain ⟨v, hv, hk⟩ := hg
      unfold oneG at hv
      rw [if_neg (Nat.lt_irrefl _), if_pos rfl] at hv
      exact .inl (write_upon (fun w' hc' => next _ w' (by unfold phase; rw [if_pos hl1]; exact hc') hk) (hv w hp))
    · have hlc : (listed.setIfInBounds i true).getD c false = listed.getD c false := getD_set_ne false hic
      by_cases hw : Region.wanted oi (yielded ops a.tmps) = true
      · rw [if_pos hw] at hg ⊢
        obtain ⟨v, hv, hk⟩ := hg
        unfold oneG at hv
        left
        by_cases hlt : i < c
        · have hcl : ¬ listed.getD c false = true := fun hcl => by rw [before_listed hsh hbf hcl i hlt] at hl0; cases hl0
          rw [if_pos hlt] at hv
          unfold phase at hp
          rw [if_neg hcl] at hp
          exact quiet_upon hp (fun w' hc' => next _ w' (by unfold phase; rw [hlc, if_neg hcl]; exact hc') hk) (hv w hp)
        · rw [if_neg hlt, if_neg hic] at hv
          exact pure_upon (next _ w (by unfold phase at hp ⊢; rw [hlc]; exact hp) hk) (hv w)
      · rw [if_neg hw] at hg ⊢
        exact next _ w (by unfold phase at hp ⊢; rw [hlc]; exact hp) hg

/-- The law. C1 is what the one operation (number c) that changes the world leads to; before it the world is w after some draws. -/
theorem region_one (c : Nat) {id : Nat} {Q : Exit → Act → World → Prop} {a : Act} {w : World} {l : List Oper} (C1 : World → Prop) (hm : P.follows .mixedOrders = true) (hB : Region.lexB .any l.toArray = true)
    (hk : ((edgesBack .any l.toArray && allBefore .any l.toArray c) && match l[c]? with | some o => o.guard.isNone | none => false) = true)
    (h : gWalk (oneG P c (fun w' => ∃ n, w' = w.drewN n) C1) l.toArray (fun a' => ∀ w', C1 w' → Q .normal a' w') 0 l a) : (Code.region id l.toArray true).wp P Q a w := by
  simp only [Region.lexB, Bool.and_eq_true] at hB
  rw [Bool.and_eq_true, Bool.and_eq_true] at hk
  obtain ⟨⟨hk1, hk3⟩, hk2⟩ := hk
  have hcl : c < l.length := by
    cases ho : l[c]? with
    | none => rw [ho] at hk2; cases hk2
    | some o => exact (List.getElem?_eq_some_iff.1 ho).1
  have hg : ∀ o, l.toArray[c]? = some o → o.guard = none := by
    intro o ho
    simp only [List.getElem?_toArray] at ho
    rw [ho] at hk2
    simpa using hk2
  refine wp_region_any hm (any_of_gAny (Q := fun a' => ∀ w', C1 w' → Q .normal a' w') (C0 := fun w' => ∃ n, w' = w.drewN n) (C1 := C1) (c := c) (by simpa using hcl) hk1 hk3 hg (fun _ w' hw' h => h w' hw') _ _ _ _ (by simp) ?_ ?_ ?_)
  · intro j oj _ hl; rw [rep_false] at hl; cases hl
  · unfold phase
    rw [if_neg (by simp [hcl])]
    exact ⟨1, rfl⟩
  · have := gAny_lex (G := oneG P c (fun w' => ∃ n, w' = w.drewN n) C1) (md := .any) hB.1 l 0 (Array.replicate l.toArray.size false) a (by simp) (by simpa using hB.2) h
    simpa using this

/-- One step of the walk: an operation ahead of number c. -/
theorem gWalk_pre {C0 C1 : World → Prop} {Q : Act → Prop} {k : Nat} {o : Oper} {rest : List Oper} {a : Act} (hk : k < c)
    (h : ∀ K : Act → Prop, (∀ a, gWalk (oneG P c C0 C1) ops Q (k + 1) rest a → K a) → if Region.wanted o (yielded ops a.tmps) then o.quiet P a C0 K else K (a.put o.dst undef)) : gWalk (oneG P c C0 C1) ops Q k (o :: rest) a := by
  have h := h _ (fun _ h => h)
  unfold gWalk
  by_cases hw : Region.wanted o (yielded ops a.tmps) = true
  · rw [if_pos hw] at *
    obtain ⟨v, h1, h2⟩ := h
    refine ⟨v, ?_, h2⟩
    unfold oneG; rw [if_pos hk]; exact h1
  · rw [if_neg hw] at *; exact h
/-- One step of the walk: the operation that changes the world. -/
theorem gWalk_write {C0 C1 : World → Prop} {Q : Act → Prop} {o : Oper} {rest : List Oper} {a : Act} (hg : o.guard = none) (v : Value)
    (h0 : ∀ w, C0 w → writeUpon P C1 v ((execOp a.eval o).run P w)) (h : gWalk (oneG P c C0 C1) ops Q (c + 1) rest (a.put o.dst v)) : gWalk (oneG P c C0 C1) ops Q c (o :: rest) a := by
  unfold gWalk
  rw [if_pos (by simp [Region.wanted, hg])]
  refine ⟨v, ?_, h⟩
  unfold oneG
  rw [if_neg (Nat.lt_irrefl _), if_pos rfl]
  exact h0
def Oper.pure_ (P : Program) (o : Oper) (a : Act) (next : Act → Prop) : Prop := ∃ v, (∀ w, pureUpon w v ((execOp a.eval o).run P w)) ∧ next (a.put o.dst v)
/-- One step of the walk: an operation behind number c. -/
theorem gWalk_post {C0 C1 : World → Prop} {Q : Act → Prop} {k : Nat} {o : Oper} {rest : List Oper} {a : Act} (hk : c < k)
    (h : ∀ K : Act → Prop, (∀ a, gWalk (oneG P c C0 C1) ops Q (k + 1) rest a → K a) → if Region.wanted o (yielded ops a.tmps) then Oper.pure_ P o a K else K (a.put o.dst undef)) : gWalk (oneG P c C0 C1) ops Q k (o :: rest) a := by
  have h := h _ (fun _ h => h)
  unfold gWalk
  by_cases hw : Region.wanted o (yielded ops a.tmps) = true
  · rw [if_pos hw] at *
    obtain ⟨v, h1, h2⟩ := h
    refine ⟨v, ?_, h2⟩
    unfold oneG; rw [if_neg (by omega), if_neg (by omega)]; exact h1
  · rw [if_neg hw] at *; exact h
theorem gWalk_nil {C0 C1 : World → Prop} {Q : Act → Prop} {k : Nat} {a : Act} (h : Q a) : gWalk (oneG P c C0 C1) ops Q k [] a := h

attribute [go_sem] Oper.pure_ pureUpon writeUpon

end
end Go.Proofs.Ytoppjjgecgbbkaa
