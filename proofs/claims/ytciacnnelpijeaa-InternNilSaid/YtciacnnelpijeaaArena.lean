/- The contracts of package arena, over an abstract arena: how many slots, how many have begun, which were returned. -/
import Derived.Test.YtciacnnelpijeaaArenaW
namespace Go.Proofs.Ytciacnnelpijeaa
open Go.RowKit

structure Ar where
  slots : Nat
  begun : Nat
  free : List Nat

def lastOf : List Nat → Int
  | [] => -1
  | k :: _ => k
def Chain (af : Nat → Int) : List Nat → Prop
  | [] => True
  | k :: r => af k = lastOf r ∧ Chain af r

structure Ar.ok (A : Ar) : Prop where
  hs : A.slots ≤ 65536
  hb : A.begun ≤ A.slots
  nd : A.free.Nodup
  lt : ∀ k ∈ A.free, k < A.begun

def Ar.used (A : Ar) : Nat := A.begun - A.free.length
def Ar.isUsed (A : Ar) (i : Nat) : Prop := i < A.begun ∧ i ∉ A.free
def Ar.next (A : Ar) : Option Nat := match A.free with
  | k :: _ => some k
  | [] => if A.begun < A.slots then some A.begun else none
def Ar.alloc (A : Ar) : Ar := match A.free with
  | _ :: r => { A with free := r }
  | [] => { A with begun := A.begun + 1 }
def Ar.put (A : Ar) (k : Nat) : Ar := { A with free := k :: A.free }
def Ar.new (slots : Nat) : Ar := { slots := slots, begun := 0, free := [] }

def upd (f : Nat → Int) (i : Nat) (x : Int) : Nat → Int := fun j => if j = i then x else f j

theorem nodup_len_le {l : List Nat} {n : Nat} (nd : l.Nodup) (h : ∀ k ∈ l, k < n) : l.length ≤ n := by
  induction n generalizing l with
  | zero => cases l with
    | nil => simp
    | cons a r => exact absurd (h a (by simp)) (by omega)
  | succ n ih =>
    have h1 : (l.filter (· ≠ n)).length ≤ n := by
      refine ih (nd.filter _) ?_
      intro k hk
      simp only [List.mem_filter, decide_eq_true_eq, ne_eq] at hk
      have := h k hk.1
      omega
    have h2 : l.length ≤ (l.filter (· ≠ n)).length + 1 := by
      clear h h1 ih
      induction l with
      | nil => simp
      | cons a r ihr =>
        simp only [List.nodup_cons] at nd
        by_cases e : a = n
        · subst e
          have : r.filter (· ≠ a) = r := List.filter_eq_self.2 (fun x hx => by simp; intro e; subst e; exact nd.1 hx)
          simp only [List.filter_cons]
          simp only [ne_eq, not_true_eq_false, decide_false, Bool.false_eq_true, if_false] at *
          rw [this]; simp
        · have := ihr nd.2
          simp only [List.filter_cons, ne_eq, e, not_false_eq_true, decide_true, if_true, List.length_cons] at *
          omega
    omega

theorem Ar.ok.len {A : Ar} (h : A.ok) : A.free.length ≤ A.begun := nodup_len_le h.nd h.lt

def SlotsAt (w : World) (bs : List Nat) (st af : Nat → Int) : Prop :=
  ∀ (j : Nat) (b : Nat), bs[j]? = some b → ∃ cs : List Value, Blk w b 98 cs ∧ ∀ r, r < 64 → cs[r * 3]? = some (.int .i64 (st (64 * j + r))) ∧ cs[r * 3 + 1]? = some (.int .i64 (af (64 * j + r))) ∧ ∃ t : Int, cs[r * 3 + 2]? = some (.int .u64 t)

theorem SlotsAt.same {w w' : World} {bs : List Nat} {st af : Nat → Int} (h : SlotsAt w bs st af) (hs : ∀ b ∈ bs, w'.heap[b]? = w.heap[b]?) : SlotsAt w' bs st af := by
  intro j b hj
  obtain ⟨cs, h1, h2⟩ := h j b hj
  exact ⟨cs, h1.of_same (hs b (List.mem_of_getElem? hj)), h2⟩

theorem SlotsAt.other {w : World} {bs : List Nat} {st af : Nat → Int} (h : SlotsAt w bs st af) (a : Addr) (u : Value) (hn : a.block ∉ bs) : SlotsAt (w.setCell a u) bs st af :=
  h.same fun _b hb => Below.heap_setCell _ _ _ _ (fun e => hn (e ▸ hb))

theorem nodup_idx {l : List Nat} (nd : l.Nodup) {i j : Nat} {b : Nat} (hi : l[i]? = some b) (hj : l[j]? = some b) : i = j := by
  obtain ⟨h1, e1⟩ := List.getElem?_eq_some_iff.1 hi
  obtain ⟨h2, e2⟩ := List.getElem?_eq_some_iff.1 hj
  rcases Nat.lt_trichotomy i j with h | h | h
  · exact absurd (e1.trans e2.symm) (List.pairwise_iff_getElem.1 nd i j h1 h2 h)
  · exact h
  · exact absurd (e2.trans e1.symm) (List.pairwise_iff_getElem.1 nd j i h2 h1 h)

section
variable {w : World} {bs : List Nat} {st af : Nat → Int} {b i : Nat}
theorem SlotsAt.set0 (h : SlotsAt w bs st af) (nd : bs.Nodup) (hb : bs[i / 64]? = some b) (x : Int) :
    SlotsAt (w.setCell ⟨b, i % 64 * 3, none⟩ (.int .i64 x)) bs (upd st i x) af := by
  intro j b' hj
  obtain ⟨cs, h1, h2⟩ := h j b' hj
  by_cases e : b' = b
  · subst e
    obtain rfl : j = i / 64 := nodup_idx nd hj hb
    refine ⟨_, h1.set _ _, fun r hr => ?_⟩
    obtain ⟨a1, a2, a3⟩ := h2 r hr
    have hi := h2 (i % 64) (by omega)
    have hlen : i % 64 * 3 < cs.length := (List.getElem?_eq_some_iff.1 hi.1).1
    refine ⟨?_, ?_, ?_⟩
    · simp only [List.getElem?_set, upd]
      by_cases er : r = i % 64
      · subst er; rw [if_pos rfl, if_pos hlen, if_pos (by omega)]
      · rw [if_neg (by omega), if_neg (by omega)]; exact a1
    · simp only [List.getElem?_set]; rw [if_neg (by omega)]; exact a2
    · simp only [List.getElem?_set]; rw [if_neg (by omega)]; exact a3
  · refine ⟨cs, h1.other _ _ e, fun r hr => ?_⟩
    obtain ⟨a1, a2, a3⟩ := h2 r hr
    refine ⟨?_, a2, a3⟩
    rw [a1]; simp only [upd]; rw [if_neg]
    intro e2; apply e
    have : j = i / 64 := by omega
    rw [this, hb] at hj; simpa using hj.symm
theorem SlotsAt.set1 (h : SlotsAt w bs st af) (nd : bs.Nodup) (hb : bs[i / 64]? = some b) (x : Int) :
    SlotsAt (w.setCell ⟨b, i % 64 * 3 + 1, none⟩ (.int .i64 x)) bs st (upd af i x) := by
  intro j b' hj
  obtain ⟨cs, h1, h2⟩ := h j b' hj
  by_cases e : b' = b
  · subst e
    obtain rfl : j = i / 64 := nodup_idx nd hj hb
    refine ⟨_, h1.set _ _, fun r hr => ?_⟩
    obtain ⟨a1, a2, a3⟩ := h2 r hr
    have hi := h2 (i % 64) (by omega)
    have hlen : i % 64 * 3 + 1 < cs.length := (List.getElem?_eq_some_iff.1 hi.2.1).1
    refine ⟨?_, ?_, ?_⟩
    · simp only [List.getElem?_set]; rw [if_neg (by omega)]; exact a1
    · simp only [List.getElem?_set, upd]
      by_cases er : r = i % 64
      · subst er; rw [if_pos rfl, if_pos hlen, if_pos (by omega)]
      · rw [if_neg (by omega), if_neg (by omega)]; exact a2
    · simp only [List.getElem?_set]; rw [if_neg (by omega)]; exact a3
  · refine ⟨cs, h1.other _ _ e, fun r hr => ?_⟩
    obtain ⟨a1, a2, a3⟩ := h2 r hr
    refine ⟨a1, ?_, a3⟩
    rw [a2]; simp only [upd]; rw [if_neg]
    intro e2; apply e
    have : j = i / 64 := by omega
    rw [this, hb] at hj; simpa using hj.symm
theorem SlotsAt.set2 (h : SlotsAt w bs st af) (nd : bs.Nodup) (hb : bs[i / 64]? = some b) (x : Int) :
    SlotsAt (w.setCell ⟨b, i % 64 * 3 + 2, none⟩ (.int .u64 x)) bs st af := by
  intro j b' hj
  obtain ⟨cs, h1, h2⟩ := h j b' hj
  by_cases e : b' = b
  · subst e
    obtain rfl : j = i / 64 := nodup_idx nd hj hb
    refine ⟨_, h1.set _ _, fun r hr => ?_⟩
    obtain ⟨a1, a2, a3⟩ := h2 r hr
    obtain ⟨t, a3⟩ := a3
    refine ⟨?_, ?_, ?_⟩
    · simp only [List.getElem?_set]; rw [if_neg (by omega)]; exact a1
    · simp only [List.getElem?_set]; rw [if_neg (by omega)]; exact a2
    · simp only [List.getElem?_set]
      by_cases er : i % 64 * 3 + 2 = r * 3 + 2
      · rw [if_pos er, if_pos (by have := (List.getElem?_eq_some_iff.1 a3).1; omega)]; exact ⟨x, rfl⟩
      · rw [if_neg er]; exact ⟨t, a3⟩
  · exact ⟨cs, h1.other _ _ e, h2⟩
end

abbrev ptr (b : Nat) : Value := .pointer (some ⟨b, 0, none⟩)

def ArenaAt (w : World) (pa : Nat) (A : Ar) (l : List Nat) : Prop :=
  ∃ (v : Value) (bs : List Nat) (st af : Nat → Int),
    Blk w pa 86 [ptr pa, v, .int .i64 A.slots, .int .i64 A.begun, .int .i64 A.used, .int .i64 (lastOf A.free)] ∧
    w.ownsRow 0 96 1 v bs.length (bs.map ptr) ∧ SlotsAt w bs st af ∧ l = pa :: (v.ownBlock.toList ++ bs) ∧ l.Nodup ∧
    bs.length = (A.begun + 63) / 64 ∧ A.ok ∧ ((∀ i, i < A.begun → i ∈ A.free → st i = 2) ∧ (∀ i, i < A.begun → i ∉ A.free → st i = 1)) ∧ Chain af A.free

theorem ArenaAt.ok {w : World} {pa : Nat} {A : Ar} {l : List Nat} (h : ArenaAt w pa A l) : A.ok := by
  obtain ⟨_, _, _, _, _, _, _, _, _, _, h, _⟩ := h; exact h

theorem ArenaAt.same {w w' : World} {pa : Nat} {A : Ar} {l : List Nat} (h : ArenaAt w pa A l) (hs : ∀ b ∈ l, w'.heap[b]? = w.heap[b]?) : ArenaAt w' pa A l := by
  obtain ⟨v, bs, st, af, h1, h2, h3, rfl, r⟩ := h
  refine ⟨v, bs, st, af, h1.of_same (hs pa (by simp)), ownsRow_same h2 (fun k hk => hs k (by simp [hk])), h3.same (fun b hb => hs b (by simp [hb])), rfl, r⟩

theorem ArenaAt.lt {w : World} {pa : Nat} {A : Ar} {l : List Nat} (h : ArenaAt w pa A l) : ∀ b ∈ l, b < w.heap.size := by
  obtain ⟨v, bs, st, af, h1, h2, h3, rfl, r⟩ := h
  intro b hb
  simp only [List.mem_cons, List.mem_append, Option.mem_toList] at hb
  rcases hb with rfl | hb | hb
  · exact h1.lt
  · exact (h2.lt b hb).2
  · obtain ⟨j, hj⟩ := List.getElem?_of_mem hb
    obtain ⟨cs, hc, _⟩ := h3 j b hj
    exact hc.lt

theorem ArenaAt.mem {w : World} {pa : Nat} {A : Ar} {l : List Nat} (h : ArenaAt w pa A l) : pa ∈ l := by
  obtain ⟨v, bs, st, af, h1, h2, h3, rfl, r⟩ := h; simp

/-- What Alloc, Free and Used ask of the memory, at a slot that has begun. -/
theorem ArenaAt.slot {w : World} {pa : Nat} {v : Value} {bs : List Nat} {st af : Nat → Int} {n k : Nat} (h2 : w.ownsRow 0 96 1 v bs.length (bs.map ptr)) (h3 : SlotsAt w bs st af)
    (hnd : (pa :: (v.ownBlock.toList ++ bs)).Nodup) (_hl : bs.length = (n + 63) / 64) (hk : k / 64 < bs.length) :
    ∃ g cap b tm, v = .slice (some ⟨g, 0, none⟩) bs.length cap ∧ bs[k / 64]? = some b ∧ g ≠ pa ∧ g ≠ b ∧ b ≠ pa ∧ w.cell? ⟨g, k / 64, none⟩ = some (.pointer (some ⟨b, 0, none⟩)) ∧
      w.cell? ⟨b, k % 64 * 3, none⟩ = some (.int .i64 (st k)) ∧ w.cell? ⟨b, k % 64 * 3 + 1, none⟩ = some (.int .i64 (af k)) ∧ w.cell? ⟨b, k % 64 * 3 + 2, none⟩ = some (.int .u64 tm) ∧ (∀ j, w.frozen? ⟨b, j, none⟩ = false) := by
  obtain ⟨g, cap, rfl, _, _, hc, _⟩ := ownsRow_at h2 hk
  obtain ⟨b, hb⟩ : ∃ b, bs[k / 64]? = some b := ⟨_, List.getElem?_eq_getElem hk⟩
  obtain ⟨cs, hB, hr⟩ := h3 _ _ hb
  obtain ⟨r1, r2, tm, r3⟩ := hr (k % 64) (by omega)
  have ek : 64 * (k / 64) + k % 64 = k := by omega
  rw [ek] at r1 r2
  have hbm := List.mem_of_getElem? hb
  simp only [Value.ownBlock, Option.toList_some, List.cons_append, List.nil_append, List.nodup_cons, List.mem_cons, not_or] at hnd
  refine ⟨g, cap, b, tm, rfl, hb, fun e => hnd.1.1 e.symm, fun e => hnd.2.1 (e ▸ hbm), fun e => hnd.1.2 (e ▸ hbm), ?_, ?_, ?_, ?_, fun j => hB.frozen j⟩
  · rw [hc]; simp [hb, ptr]
  · rw [hB.cell]; exact r1
  · rw [hB.cell]; exact r2
  · rw [hB.cell]; exact r3

theorem Chain.other {af : Nat → Int} {l : List Nat} {k : Nat} {x : Int} (h : Chain af l) (hk : k ∉ l) : Chain (upd af k x) l := by
  induction l with
  | nil => trivial
  | cons a r ih =>
    simp only [List.mem_cons, not_or] at hk
    refine ⟨?_, ih h.2 hk.2⟩
    simp only [upd]; rw [if_neg (fun e => hk.1 e.symm)]; exact h.1

theorem arena_alloc_none {w : World} {pa : Nat} {A : Ar} {l : List Nat} (h : ArenaAt w pa A l) (hn : A.next = none) :
    Calls Try.prog 36 #[ptr pa] w fun e w' => e = .returned (.tuple #[.int .i64 0, .int .i64 4]) ∧ Eqv w' w := by
  obtain ⟨v, bs, st, af, h1, h2, h3, rfl, hnd, hl, hok, hst, hch⟩ := h
  obtain ⟨slots, begun, free⟩ := A
  cases free with
  | cons k r => simp [Ar.next] at hn
  | nil =>
    simp only [Ar.next] at hn
    have hlt : slots ≤ begun := by
      by_cases hh : begun < slots
      · rw [if_pos hh] at hn; cases hn
      · omega
    refine (arena_alloc_full pa begun slots w (h1.cell 0) (h1.cell 5) (h1.cell 3) (h1.cell 2) hlt).mono ?_
    rintro e w' ⟨rfl, n, rfl⟩
    exact ⟨rfl, Eqv.drewN w n⟩

theorem arena_alloc_some {w : World} {pa : Nat} {A : Ar} {l : List Nat} {i : Nat} (h : ArenaAt w pa A l) (hn : A.next = some i) :
    Calls Try.prog 36 #[ptr pa] w fun e w' => e = .returned (.tuple #[.int .i64 i, .int .i64 0]) ∧
      ∃ l', ArenaAt w' pa A.alloc l' ∧ Fr l w w' ∧ ∀ b ∈ l', b ∈ l ∨ w.heap.size ≤ b := by
  have hlt := h.lt
  obtain ⟨v, bs, st, af, h1, h2, h3, rfl, hnd, hl, hok, hst, hch⟩ := h
  have hlen := hok.len
  obtain ⟨slots, begun, free⟩ := A
  have hs := hok.hs
  have hb := hok.hb
  dsimp only at *
  have hndb : bs.Nodup := by simp only [List.nodup_cons, List.nodup_append] at hnd; exact hnd.2.2.1
  have hpab : pa ∉ bs := by intro hm; simp only [List.nodup_cons] at hnd; exact hnd.1 (by simp [hm])
  have hpav : v.ownBlock ≠ some pa := by intro hm; simp only [List.nodup_cons] at hnd; exact hnd.1 (by simp [hm])
  cases free with
  | cons k r =>
    obtain rfl : k = i := by simpa [Ar.next] using hn
    have hkb : k < begun := hok.lt k (by simp)
    obtain ⟨g, cap, b, tm, rfl, hbk, hg1, hg2, hbp, c1, c2, c3, c4, hfz⟩ := ArenaAt.slot h2 h3 hnd hl (show k / 64 < bs.length by omega)
    have hbm := List.mem_of_getElem? hbk
    refine (arena_alloc_last pa g bs.length cap b k (Ar.used ⟨slots, begun, k :: r⟩) (af k) tm (st k) w hbp (h1.cell 0) (h1.cell 5) (h1.cell 1) (by omega) (by omega) hg1 hg2 h1.frozen hfz c1 (h1.cell 4) (by simp only [Ar.used]; simp at hlen; simp; omega) c2 c3 c4).mono ?_
    rintro e w' ⟨rfl, tm', he⟩
    refine ⟨rfl, _, ⟨_, bs, upd st k 1, upd af k (-1), ?_, ?_, ?_, rfl, hnd, ?_, ?_, ?_, ?_⟩, ?_, fun b hb => .inl hb⟩
    · have hh := he.blk (((((h1.set 5 (.int .i64 (af k))).other ⟨b, k % 64 * 3, none⟩ (.int .i64 1) (fun e => hbp e.symm)).other ⟨b, k % 64 * 3 + 1, none⟩ (.int .i64 (-1)) (fun e => hbp e.symm)).other ⟨b, k % 64 * 3 + 2, none⟩ (.int .u64 tm') (fun e => hbp e.symm)).set 4 (.int .i64 ((Ar.used ⟨slots, begun, k :: r⟩ : Nat) + 1)))
      have e1 : af k = lastOf r := hch.1
      have e2 : (((Ar.used ⟨slots, begun, k :: r⟩ : Nat) : Int) + 1) = ((Ar.used (Ar.alloc ⟨slots, begun, k :: r⟩) : Nat) : Int) := by
        simp only [Ar.used, Ar.alloc, List.length_cons] at *; omega
      rw [e2, e1] at hh
      exact hh
    · refine he.owns (ownsRow_same h2 fun q hq => ?_)
      simp only [Value.ownBlock, Option.some.injEq] at hq
      subst hq
      rw [Below.heap_setCell _ _ _ _ hg1, Below.heap_setCell _ _ _ _ hg2, Below.heap_setCell _ _ _ _ hg2, Below.heap_setCell _ _ _ _ hg2, Below.heap_setCell _ _ _ _ hg1]
    · exact SlotsAt.same (((((h3.other ⟨pa, 5, none⟩ (.int .i64 (af k)) hpab).set0 hndb hbk 1).set1 hndb hbk (-1)).set2 hndb hbk tm').other ⟨pa, 4, none⟩ _ hpab) (fun b _ => by rw [he.heap])
    · exact hl
    · exact ⟨hs, hb, by have := hok.nd; simp at this; exact this.2, fun x hx => hok.lt x (by simp [Ar.alloc] at hx; simp [hx])⟩
    · have hnr : k ∉ r := by have := hok.nd; simp at this; exact this.1
      refine ⟨fun j hj hm => ?_, fun j hj hm => ?_⟩ <;> simp only [upd, Ar.alloc] at hj hm ⊢
      · rw [if_neg (show ¬ j = k by rintro rfl; exact hnr hm)]; exact hst.1 j hj (by simp [hm])
      · by_cases e : j = k
        · rw [if_pos e]
        · rw [if_neg e]; exact hst.2 j hj (by simp [e, hm])
    · have hnr : k ∉ r := by have := hok.nd; simp at this; exact this.1
      exact hch.2.other hnr
    · refine he.fr (((((Fr.refl _ _).setCell _ _ ?_).setCell _ _ ?_).setCell _ _ ?_).setCell _ _ ?_ |>.setCell _ _ ?_) <;> simp [hbm]
  | nil =>
    have hlt2 : begun < slots := by
      simp only [Ar.next] at hn
      by_cases hh : begun < slots
      · exact hh
      · rw [if_neg hh] at hn; cases hn
    obtain rfl : begun = i := by simpa [Ar.next, hlt2] using hn
    by_cases hk : begun % 64 = 0
    · have hu : Ar.used ⟨slots, begun, []⟩ = begun := by simp [Ar.used]
      have h4 := h1.cell 4
      refine (arena_alloc_grow pa bs.length begun slots (Ar.used ⟨slots, begun, []⟩) v (bs.map ptr) w (h1.cell 0) (h1.cell 5) (h1.cell 1) (by omega) hk (by omega) h2 (h1.cell 3) (h1.cell 2) hlt2 hpav h1.lt h1.frozen h4 (by omega)).mono ?_
      rintro e w' ⟨rfl, g', cap', w1, tm, hown1, hfr, hnb, hg', he⟩
      have hpa := h1.lt
      have hvl : ∀ q, v.ownBlock = some q → q < w.heap.size := fun q hq => (h2.lt q hq).2
      have hbl : ∀ q ∈ bs, q < w.heap.size := fun q hq => hlt q (by simp [hq])
      have hne : g' ≠ pa := by rcases hg' with hg' | hg'; exact fun e => hpav (e ▸ hg'); omega
      have hne2 : g' ≠ w.heap.size := by rcases hg' with hg' | hg'; have := hvl _ hg'; omega; omega
      have hb1 : Blk w1 pa 86 _ := hfr.blk h1 (by simpa using hpav)
      have hndr : ∀ q ∈ bs, v.ownBlock ≠ some q := by
        intro q hq e; simp only [List.nodup_cons, List.nodup_append, e] at hnd
        exact hnd.2.2.2 q (by simp) q hq rfl
      refine ⟨rfl, pa :: ([g'] ++ (bs ++ [w.heap.size])), ⟨.slice (some ⟨g', 0, none⟩) (bs.length + 1) cap', bs ++ [w.heap.size], upd (fun j => if j < begun then st j else 0) begun 1, upd (fun j => if j < begun then af j else 0) begun (-1), ?_, ?_, ?_, rfl, ?_, ?_, ?_, ?_, ?_⟩, ?_, ?_⟩
      · have hh := he.blk ((((((hb1.set 1 (.slice (some ⟨g', 0, none⟩) (bs.length + 1) cap')).set 3 (.int .i64 (begun + 1))).other ⟨w.heap.size, 0, none⟩ (.int .i64 1) (by simp; omega)).other ⟨w.heap.size, 1, none⟩ (.int .i64 (-1)) (by simp; omega)).other ⟨w.heap.size, 2, none⟩ (.int .u64 tm) (by simp; omega)).set 4 (.int .i64 ((Ar.used ⟨slots, begun, []⟩ : Nat) + 1)))
        have e2 : (((Ar.used ⟨slots, begun, []⟩ : Nat) : Int) + 1) = ((Ar.used (Ar.alloc ⟨slots, begun, []⟩) : Nat) : Int) := by simp [Ar.used, Ar.alloc]
        rw [e2] at hh
        exact hh
      · refine he.owns (ownsRow_same (w := w1) ?_ fun q hq => ?_)
        · simpa [ptr] using hown1
        · simp only [Value.ownBlock, Option.some.injEq] at hq
          subst hq
          rw [Below.heap_setCell _ _ _ _ hne, Below.heap_setCell _ _ _ _ hne2, Below.heap_setCell _ _ _ _ hne2, Below.heap_setCell _ _ _ _ hne2, Below.heap_setCell _ _ _ _ hne, Below.heap_setCell _ _ _ _ hne]
      · intro j b hj
        have hjl : j < bs.length + 1 := by have := (List.getElem?_eq_some_iff.1 hj).1; simpa using this
        by_cases ej : j < bs.length
        · rw [List.getElem?_append_left ej] at hj
          obtain ⟨cs, a1, a2⟩ := h3 j b hj
          have hbm := List.mem_of_getElem? hj
          have n1 : b ≠ pa := fun e => hpab (e ▸ hbm)
          have n2 : b ≠ w.heap.size := by have := hbl b hbm; omega
          have a1' : Blk w1 b 98 cs := hfr.blk a1 (by simpa using hndr b hbm)
          refine ⟨cs, he.blk ((((((a1'.other _ _ n1).other _ _ n1).other _ _ n2).other _ _ n2).other _ _ n2).other _ _ n1), fun r hr => ?_⟩
          have hlt3 : 64 * j + r < begun := by omega
          obtain ⟨b1, b2, b3⟩ := a2 r hr
          have hne3 : ¬ 64 * j + r = begun := by omega
          simp only [upd, if_neg hne3, if_pos hlt3]
          exact ⟨b1, b2, b3⟩
        · obtain rfl : j = bs.length := by omega
          simp at hj
          subst hj
          refine ⟨_, he.blk ((((((hnb.other ⟨pa, 1, none⟩ _ (by simp; omega)).other ⟨pa, 3, none⟩ _ (by simp; omega)).set 0 (.int .i64 1)).set 1 (.int .i64 (-1))).set 2 (.int .u64 tm)).other ⟨pa, 4, none⟩ _ (by simp; omega)), fun r hr => ?_⟩
          obtain ⟨z1, z2, z3⟩ := zero_block r hr
          have hl0 := zero_block_len
          simp only [upd, List.getElem?_set, List.length_set]
          by_cases er : r = 0
          · subst er
            have e0 : 64 * bs.length + 0 = begun := by omega
            simp [e0, hl0]
          · rw [if_neg (show ¬ 2 = r * 3 by omega), if_neg (show ¬ 1 = r * 3 by omega), if_neg (show ¬ 0 = r * 3 by omega), if_neg (show ¬ 2 = r * 3 + 1 by omega), if_neg (show ¬ 1 = r * 3 + 1 by omega), if_neg (show ¬ 0 = r * 3 + 1 by omega),
              if_neg (show ¬ 2 = r * 3 + 2 by omega), if_neg (show ¬ 1 = r * 3 + 2 by omega), if_neg (show ¬ 0 = r * 3 + 2 by omega)]
            have hne3 : ¬ 64 * bs.length + r = begun := by omega
            have hge3 : ¬ 64 * bs.length + r < begun := by omega
            simp only [if_neg hne3, if_neg hge3]
            exact ⟨z1, z2, _, z3⟩
      · simp only [List.nodup_cons, List.nodup_append, List.mem_append, List.mem_cons, List.not_mem_nil, or_false, not_or] at hnd ⊢
        refine ⟨⟨fun e => hne e.symm, hpab, by omega⟩, by simp, ⟨hndb, by simp, ?_⟩, ?_⟩
        · rintro a ha b rfl; have := hbl a ha; omega
        · rintro a rfl b (hb | rfl)
          · rcases hg' with hg' | hg'
            · intro e; exact hndr b hb (e ▸ hg')
            · have := hbl b hb; omega
          · exact hne2
      · simp [Ar.alloc]; omega
      · exact ⟨hs, by simp [Ar.alloc]; omega, by simp [Ar.alloc], by simp [Ar.alloc]⟩
      · refine ⟨fun j hj hm => by simp [Ar.alloc] at hm, fun j hj _ => ?_⟩
        simp only [Ar.alloc, upd] at hj ⊢
        by_cases e : j = begun
        · rw [if_pos e]
        · rw [if_neg e, if_pos (by omega)]; exact hst.2 j (by omega) (by simp)
      · trivial
      · have f1 : Fr (pa :: (v.ownBlock.toList ++ bs)) w w1 := hfr.mono (fun b hb => .inl (by simp at hb; simp [hb]))
        refine he.fr ((((((f1.setCell _ _ ?_).setCell _ _ ?_).setCell _ _ ?_).setCell _ _ ?_).setCell _ _ ?_).setCell _ _ ?_) <;> simp
      · intro b hb
        simp only [List.mem_cons, List.mem_append, List.not_mem_nil, or_false] at hb ⊢
        rcases hb with rfl | rfl | hb | rfl
        · exact .inl (.inl rfl)
        · rcases hg' with hg' | hg'
          · exact .inl (.inr (.inl (by simp [hg'])))
          · exact .inr (by omega)
        · exact .inl (.inr (.inr hb))
        · exact .inr (Nat.le_refl _)
    · obtain ⟨g, cap, b, tm, rfl, hbk, hg1, hg2, hbp, c1, c2, c3, c4, hfz⟩ := ArenaAt.slot h2 h3 hnd hl (show begun / 64 < bs.length by omega)
      have hbm := List.mem_of_getElem? hbk
      refine (arena_alloc_fresh pa g bs.length cap b begun slots (Ar.used ⟨slots, begun, []⟩) (af begun) tm (st begun) w hbp (h1.cell 0) (h1.cell 5) (h1.cell 1) (by omega) (by omega) (by omega) (h1.cell 3) (h1.cell 2) hlt2 hg1 hg2 h1.frozen hfz c1 (h1.cell 4) (by simp only [Ar.used]; simp; omega) c2 c3 c4).mono ?_
      rintro e w' ⟨rfl, tm', he⟩
      refine ⟨rfl, _, ⟨_, bs, upd st begun 1, upd af begun (-1), ?_, ?_, ?_, rfl, hnd, ?_, ?_, ?_, ?_⟩, ?_, fun b hb => .inl hb⟩
      · have hh := he.blk (((((h1.set 3 (.int .i64 (begun + 1))).other ⟨b, begun % 64 * 3, none⟩ (.int .i64 1) (fun e => hbp e.symm)).other ⟨b, begun % 64 * 3 + 1, none⟩ (.int .i64 (-1)) (fun e => hbp e.symm)).other ⟨b, begun % 64 * 3 + 2, none⟩ (.int .u64 tm') (fun e => hbp e.symm)).set 4 (.int .i64 ((Ar.used ⟨slots, begun, []⟩ : Nat) + 1)))
        have e2 : (((Ar.used ⟨slots, begun, []⟩ : Nat) : Int) + 1) = ((Ar.used (Ar.alloc ⟨slots, begun, []⟩) : Nat) : Int) := by simp [Ar.used, Ar.alloc]
        rw [e2] at hh
        exact hh
      · refine he.owns (ownsRow_same h2 fun q hq => ?_)
        simp only [Value.ownBlock, Option.some.injEq] at hq
        subst hq
        rw [Below.heap_setCell _ _ _ _ hg1, Below.heap_setCell _ _ _ _ hg2, Below.heap_setCell _ _ _ _ hg2, Below.heap_setCell _ _ _ _ hg2, Below.heap_setCell _ _ _ _ hg1]
      · exact SlotsAt.same (((((h3.other ⟨pa, 3, none⟩ _ hpab).set0 hndb hbk 1).set1 hndb hbk (-1)).set2 hndb hbk tm').other ⟨pa, 4, none⟩ _ hpab) (fun b _ => by rw [he.heap])
      · simp [Ar.alloc]; omega
      · exact ⟨hs, by simp [Ar.alloc]; omega, by simp [Ar.alloc], by simp [Ar.alloc]⟩
      · refine ⟨fun j hj hm => by simp [Ar.alloc] at hm, fun j hj _ => ?_⟩
        simp only [Ar.alloc, upd] at hj ⊢
        by_cases e : j = begun
        · rw [if_pos e]
        · rw [if_neg e]; exact hst.2 j (by omega) (by simp)
      · trivial
      · refine he.fr (((((Fr.refl _ _).setCell _ _ ?_).setCell _ _ ?_).setCell _ _ ?_).setCell _ _ ?_ |>.setCell _ _ ?_) <;> simp [hbm]

theorem arena_free {w : World} {pa : Nat} {A : Ar} {l : List Nat} {k : Nat} (h : ArenaAt w pa A l) (hu : A.isUsed k) :
    Calls Try.prog 34 #[ptr pa, .int .i64 k] w fun e w' => e = .returned (.int .i64 0) ∧ ArenaAt w' pa (A.put k) l ∧ Fr l w w' := by
  obtain ⟨v, bs, st, af, h1, h2, h3, rfl, hnd, hl, hok, hst, hch⟩ := h
  have hlen := hok.len
  obtain ⟨slots, begun, free⟩ := A
  have hs := hok.hs
  have hb := hok.hb
  obtain ⟨hkb, hkf⟩ := hu
  dsimp only at *
  have hndb : bs.Nodup := by simp only [List.nodup_cons, List.nodup_append] at hnd; exact hnd.2.2.1
  have hpab : pa ∉ bs := by intro hm; simp only [List.nodup_cons] at hnd; exact hnd.1 (by simp [hm])
  obtain ⟨g, cap, b, tm, rfl, hbk, hg1, hg2, hbp, c1, c2, c3, c4, hfz⟩ := ArenaAt.slot h2 h3 hnd hl (show k / 64 < bs.length by omega)
  have hbm := List.mem_of_getElem? hbk
  have hlen2 : free.length + 1 ≤ begun := by
    have := nodup_len_le (l := k :: free) (n := begun) (by simp [hkf, hok.nd]) (by intro x hx; simp at hx; rcases hx with rfl | hx; exact hkb; exact hok.lt x hx)
    simpa using this
  rw [hst.2 k hkb hkf] at c2
  refine (arena_free_w pa g bs.length cap b k (Ar.used ⟨slots, begun, free⟩) slots begun (lastOf free) (af k) tm w hbp (h1.cell 0) (h1.cell 5) (h1.cell 1) (by omega) (by omega) (h1.cell 2) (by omega) (h1.cell 3) hkb hg1 hg2 h1.frozen hfz c1 (h1.cell 4) (by simp only [Ar.used]; omega) (by simp only [Ar.used]; omega) c2 c3 c4).mono ?_
  rintro e w' ⟨rfl, he⟩
  refine ⟨rfl, ⟨_, bs, upd st k 2, upd af k (lastOf free), ?_, ?_, ?_, rfl, hnd, hl, ?_, ?_, ?_⟩, ?_⟩
  · have hh := he.blk (((((h1.other ⟨b, k % 64 * 3, none⟩ (.int .i64 2) (fun e => hbp e.symm)).other ⟨b, k % 64 * 3 + 1, none⟩ (.int .i64 (lastOf free)) (fun e => hbp e.symm)).set 5 (.int .i64 k)).set 4 (.int .i64 ((Ar.used ⟨slots, begun, free⟩ : Nat) - 1))))
    have e2 : (((Ar.used ⟨slots, begun, free⟩ : Nat) : Int) - 1) = ((Ar.used (Ar.put ⟨slots, begun, free⟩ k) : Nat) : Int) := by
      simp only [Ar.used, Ar.put, List.length_cons] at *; omega
    rw [e2] at hh
    exact hh
  · refine he.owns (ownsRow_same h2 fun q hq => ?_)
    simp only [Value.ownBlock, Option.some.injEq] at hq
    subst hq
    rw [Below.heap_setCell _ _ _ _ hg1, Below.heap_setCell _ _ _ _ hg1, Below.heap_setCell _ _ _ _ hg2, Below.heap_setCell _ _ _ _ hg2]
  · exact SlotsAt.same ((((h3.set0 hndb hbk 2).set1 hndb hbk (lastOf free)).other ⟨pa, 5, none⟩ _ hpab).other ⟨pa, 4, none⟩ _ hpab) (fun b _ => by rw [he.heap])
  · exact ⟨hs, hb, by simp [Ar.put, hkf, hok.nd], fun x hx => by simp [Ar.put] at hx; rcases hx with rfl | hx; exact hkb; exact hok.lt x hx⟩
  · refine ⟨fun j hj hm => ?_, fun j hj hm => ?_⟩ <;> simp only [upd, Ar.put, List.mem_cons, not_or] at hj hm ⊢
    · by_cases e : j = k
      · rw [if_pos e]
      · rw [if_neg e]; exact hst.1 j hj (hm.resolve_left e)
    · rw [if_neg hm.1]; exact hst.2 j hj hm.2
  · exact ⟨by simp [upd], hch.other hkf⟩
  · refine he.fr ((((Fr.refl _ _).setCell _ _ ?_).setCell _ _ ?_).setCell _ _ ?_ |>.setCell _ _ ?_) <;> simp [hbm]

theorem arena_len {w : World} {pa : Nat} {A : Ar} {l : List Nat} (h : ArenaAt w pa A l) :
    Calls Try.prog 37 #[ptr pa] w fun e w' => e = .returned (.int .i64 A.used) ∧ w = w' := by
  obtain ⟨v, bs, st, af, h1, _⟩ := h
  exact arena_len_w pa _ w (h1.cell 0) (h1.cell 4)

theorem arena_used {w : World} {pa : Nat} {A : Ar} {l : List Nat} (h : ArenaAt w pa A l) (i : Int) (yes : Bool) (hbb : yes = true ↔ 0 ≤ i ∧ A.isUsed i.toNat) :
    Calls Try.prog 38 #[ptr pa, .int .i64 i] w fun e w' => e = .returned (.bool yes) ∧ w = w' := by
  obtain ⟨v, bs, st, af, h1, h2, h3, rfl, hnd, hl, hok, hst, hch⟩ := h
  obtain ⟨slots, begun, free⟩ := A
  have hs := hok.hs
  have hb := hok.hb
  dsimp only at *
  by_cases hi : i < 0 ∨ (slots : Int) ≤ i
  · refine (arena_used_no pa slots i w (h1.cell 0) (h1.cell 2) hi).mono ?_
    rintro e w' ⟨rfl, rfl⟩
    refine ⟨?_, rfl⟩
    cases yes with
    | false => rfl
    | true =>
      obtain ⟨h0, hu, _⟩ := hbb.1 rfl
      simp only at hu
      omega
  · obtain ⟨k, rfl⟩ := Int.eq_ofNat_of_zero_le (show 0 ≤ i by omega)
    by_cases hkb : k < begun
    · obtain ⟨g, cap, b, tm, rfl, hbk, hg1, hg2, hbp, c1, c2, c3, c4, hfz⟩ := ArenaAt.slot h2 h3 hnd hl (show k / 64 < bs.length by omega)
      refine (arena_used_st pa slots k (st k) w (h1.cell 0) (h1.cell 2) (by omega) (arena_state_w pa g bs.length cap b k begun (st k) w (h1.cell 1) (by omega) (by omega) (h1.cell 3) hkb c1 c2)).mono ?_
      rintro e w' ⟨rfl, rfl⟩
      refine ⟨?_, rfl⟩
      by_cases hf : k ∈ free
      · rw [hst.1 k hkb hf]
        cases yes with
        | false => rfl
        | true => exact absurd hf (by have := (hbb.1 rfl).2.2; simpa using this)
      · rw [hst.2 k hkb hf]
        cases yes with
        | true => rfl
        | false => exact absurd (hbb.2 ⟨by omega, by simp [Ar.isUsed, hkb, hf]⟩) (by simp)
    · refine (arena_used_st pa slots k 0 w (h1.cell 0) (h1.cell 2) (by omega) (arena_state_fresh pa k begun w (h1.cell 3) (by omega))).mono ?_
      rintro e w' ⟨rfl, rfl⟩
      refine ⟨?_, rfl⟩
      cases yes with
      | false => rfl
      | true => exact absurd (hbb.1 rfl).2.1 (by simpa using hkb)

theorem arena_new (slots : Nat) (w : World) (h : slots ≤ 65536) :
    Calls Try.prog 31 #[.int .i64 slots] w fun e w' => e = .returned (.tuple #[ptr w.heap.size, .int .i64 0]) ∧ ArenaAt w' w.heap.size (Ar.new slots) [w.heap.size] ∧ Fr [] w w' := by
  refine (arena_new_w slots w h).mono ?_
  rintro e w' ⟨rfl, he⟩
  refine ⟨rfl, ⟨_, [], fun _ => 0, fun _ => 0, he.blk (Blk.new w [ptr w.heap.size, .slice none 0 0, .int .i64 slots, .int .i64 0, .int .i64 0, .int .i64 (-1)] _), World.ownsRow_nil _ _ _ _, ?_, rfl, by simp, by simp [Ar.new], ⟨h, by simp [Ar.new], by simp [Ar.new], by simp [Ar.new]⟩, by simp [Ar.new], trivial⟩, he.fr ((Fr.refl _ _).alloc _)⟩
  intro j b hj; simp at hj

end Go.Proofs.Ytciacnnelpijeaa
