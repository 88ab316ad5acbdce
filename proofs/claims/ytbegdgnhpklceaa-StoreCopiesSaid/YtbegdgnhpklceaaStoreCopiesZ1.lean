/- StoreKeeps: the walk. -/
import Derived.Maps.RangeWalk
import Derived.Test.YtbegdgnhpklceaaB5
import Derived.Ground.SlmcProg
import Derived.Shelf.SlMaps.Clone
import Derived.StillTailTactics
import Derived.Test.YtbegdgnhpklceaaB13
import Derived.Test.YtbegdgnhpklceaaB15
set_option linter.unusedSimpArgs false
set_option linter.unusedVariables false
/- A range over a map with integer keys: the keys that were met, in whatever order. -/
namespace Go.Proofs.Ytbegdgnhpklceaa
open Go.RowKit Go.Maps

/-- The range over the map in block b, with the iterator in block r: these keys were met. -/
def IRange (P : Program) (k : TypeId) (q : IntKind) (ok : Value → Bool) (w : World) (b r : Nat) (m : Int → Option Value) (n : Nat) (done : List Int) (cnt : Nat) : Prop :=
  ∃ (D : DataW Value) (left : Lit → Bool), w.ranges P k (tokR ok) b r n D left cnt ∧ Tidy D ∧ Maps.size D = n ∧
    (∀ a : Int, (Lit.int q a).wf = true → (Maps.has D (.int q a) = (m a).isSome ∧ ∀ v, m a = some v → ok v = true ∧ ∀ z, D.atKey (.int q a) z = .held v)) ∧
    done.Nodup ∧ (∀ x ∈ done, (Lit.int q x).wf = true ∧ (m x).isSome = true) ∧ (∀ x, (Lit.int q x).wf = true → (left (.int q x) = true ↔ (m x).isSome = true ∧ x ∉ done))

section
variable {P : Program} {k t e : TypeId} {q : IntKind} {ok : Value → Bool} {w w' : World} {b r n cnt : Nat} {m : Int → Option Value} {done : List Int}
theorem IRange.fr {S : List Nat} (h : IRange P k q ok w b r m n done cnt) (hf : Fr S w w') (hb : b ∉ S) (hr : r ∉ S) : IRange P k q ok w' b r m n done cnt := by
  obtain ⟨D, left, h1, h2⟩ := h
  refine ⟨D, left, ?_, h2⟩
  have l1 := h1.owns.lt
  have l2 := h1.lt
  obtain ⟨es, clock, since, seen, c0, hb', F, hs, hD, hr', rest⟩ := h1
  exact ⟨es, clock, since, seen, c0, (hf.keep b l1 hb).trans hb', F, hs, hD, (hf.keep r l2 hr).trans hr', rest⟩
theorem IRange.left_eq (h : IRange P k q ok w b r m n done cnt) : w.rangeLeft b r = cnt := by
  obtain ⟨D, left, h1, _⟩ := h; exact h1.left_eq
theorem IRange.lt (h : IRange P k q ok w b r m n done cnt) : r < w.heap.size ∧ b < w.heap.size := by
  obtain ⟨D, left, h1, _⟩ := h; exact ⟨h1.lt, h1.owns.lt⟩
theorem IRange.map (h : IRange P k q ok w b r m n done cnt) : IMap P k q ok w b m n := by
  obtain ⟨D, left, h1, h2, h3, h4, _⟩ := h
  exact ⟨D, h1.owns, h2, h3, h4⟩

variable {ops : Array Oper} {rest : List Oper} {o : Oper} {a : Act} {Q : Exit → Act → World → Prop}
/-- 'range m'. -/
theorem wpList_irange (hg : o.guard = none) (mo : Operand) (hop : o.op = Op.range t mo) (h : IMap P k q ok w b m n) (hk : P.underlying k = some (.int q)) (ht : P.underlying t = some (.map k e))
    (hm : a.eval mo = .map (some b)) (hK : ∀ w' cnt, IRange P k q ok w' b w.heap.size m n [] cnt → cnt ≤ n → Fr [] w w' → w'.heap.size = w.heap.size + 1 → wpList P ops Q rest (a.put o.dst (.pointer (some ⟨w.heap.size, 0, none⟩))) w') :
    wpList P ops Q (o :: rest) a w := by
  obtain ⟨D, h1, h2, h3, h4⟩ := h
  refine wpList_range_own w hg mo t hop k e (int_keyed hk) ht (tokR ok) b n D hm h1 fun w' hr hgw hs => ?_
  refine hK w' _ ⟨D, Maps.has D, hr, h2, h3, h4, .nil, (fun x hx => by cases hx), fun x hx => ?_⟩ (by rw [h3]; exact Nat.le_refl _) ((Fr.refl _ _).grown hgw (fun k e => by cases e)) hs
  rw [(h4 x hx).1]; simp
/-- The step. -/
theorem wpList_inext (hg : o.guard = none) (it : Operand) (hop : o.op = Op.next it false) (hk : P.underlying k = some (.int q)) (hit : a.eval it = .pointer (some ⟨r, 0, none⟩)) (h : IRange P k q ok w b r m n done cnt)
    (hDone : (∀ x, (Lit.int q x).wf = true → (m x).isSome = true → x ∈ done) → wpList P ops Q rest (a.put o.dst (.tuple #[.bool false])) w)
    (hMore : ∀ (x : Int) (c : Value) (w' : World) (cnt' : Nat), (Lit.int q x).wf = true → m x = some c → x ∉ done → IRange P k q ok w' b r m n (done ++ [x]) cnt' → cnt' < cnt → Fr [r] w w' → w'.heap.size = w.heap.size →
      (Instr.entry (.pointer (some ⟨r, 0, none⟩))).run P w' = .ok (.tuple #[.int q x, c]) w' → wpList P ops Q rest (a.put o.dst (.tuple #[.bool true, .int q x, c])) w') :
    wpList P ops Q (o :: rest) a w := by
  obtain ⟨D, left, h1, h2, h3, h4, h5, h6, h7⟩ := h
  refine wpList_next_ranges w hg it hop k (int_keyed hk) (tokR ok) (Value.int q) (fun (c : Value) => c) (fun key kl hkey => by obtain ⟨x, rfl, _⟩ := Maps.keyOf_int_inv hk hkey; exact ⟨x, rfl⟩) (fun v y _ => ⟨v, rfl⟩) b r n D left cnt hit h1
    (fun _ hl => hDone fun x hx hs => Classical.byContradiction fun hn => by have := (h7 x hx).2 ⟨hs, hn⟩; rw [hl] at this; cases this) ?_
  intro x c kl y w' cnt' hkey hlk hv hat hrg hlt hgr hsz hen
  obtain ⟨x', ex, rfl, hw⟩ := Maps.keyOf_int_inv hk hkey
  cases ex
  obtain ⟨hsome, hnd⟩ := (h7 x hw).1 hlk
  obtain ⟨u, hu⟩ := Option.isSome_iff_exists.1 hsome
  have hcu : c = u := by
    have e1 := hat (.held undef)
    rw [((h4 x hw).2 u hu).2] at e1
    unfold tokR at hv
    split at hv
    · cases hv; simpa using e1.symm
    · cases hv
  subst hcu
  refine hMore x c w' cnt' hw hu hnd ⟨D, _, hrg, h2, h3, h4, ?_, fun z hz => ?_, fun z hz => ?_⟩ hlt ((Fr.refl _ _).grown hgr (fun k e => .inl (by simp at e; simp [e]))) hsz hen
  · exact List.nodup_append.2 ⟨h5, by simp, by rintro a ha b hb rfl; simp at hb; subst hb; exact hnd ha⟩
  · rcases List.mem_append.1 hz with hz | hz
    · exact h6 z hz
    · simp at hz; subst hz; exact ⟨hw, hsome⟩
  · have e : (Lit.int q z).sameKey (.int q x) = decide (z = x) := by simp [Lit.sameKey]
    show (left (.int q z) && !(Lit.int q z).sameKey (.int q x)) = true ↔ _
    rw [e, Bool.and_eq_true, h7 z hz]
    simp only [List.mem_append, List.mem_singleton, not_or, Bool.not_eq_true', decide_eq_false_iff_not, and_assoc]
end
end Go.Proofs.Ytbegdgnhpklceaa

/- store: Copy. -/
namespace Go.Proofs.Ytbegdgnhpklceaa
open Go.RowKit
set_option maxRecDepth 10000
set_option maxHeartbeats 1600000

def Try.laysCloneMS_ren : Go.Shelf.Ren := ⟨fun | 5 => 50 | 7 => 65 | n => n, fun | 23 => 61 | 25 => 30 | 3 => 46 | 4 => 4 | 20 => 20 | n => n, fun | n => n⟩
theorem Try.laysCloneMS : Go.Proofs.SlLaysW.n5 Try.prog Try.laysCloneMS_ren := {
  mixed := by kernel_rfl
  f5 := ⟨Try.f50.name, by decide, Try.func50.trans (congrArg some (by kernel_rfl))⟩
  f7 := Try.func65.trans (congrArg some (by kernel_rfl))
  t4 := Try.underlying4
  a4 := Try.isAgg4
  z4 := Try.sizeOf4
  v4 := Try.zeroValue4
  t20 := Try.underlying20
  a20 := Try.isAgg20
  z20 := Try.sizeOf20
  v20 := Try.zeroValue20
  t23 := Try.underlying61
  a23 := Try.isAgg61
  z23 := Try.sizeOf61
  v23 := Try.zeroValue61 }
def Try.laysCloneL_ren : Go.Shelf.Ren := ⟨fun | 41 => 49 | n => n, fun | 22 => 24 | 23 => 34 | 4 => 4 | n => n, fun | n => n⟩
theorem Try.laysCloneL : Go.Proofs.SlLaysE0.n41 Try.prog Try.laysCloneL_ren := {
  mixed := by kernel_rfl
  f41 := ⟨Try.f49.name, by decide, Try.func49.trans (congrArg some (by kernel_rfl))⟩
  t4 := Try.underlying4
  a4 := Try.isAgg4
  z4 := Try.sizeOf4
  v4 := Try.zeroValue4
  t22 := Try.underlying24
  a22 := Try.isAgg24
  z22 := Try.sizeOf24
  v22 := Try.zeroValue24 }

theorem clone_live {w : World} {v : Value} {l : List Lv} (h : RowV w v l) (hp : l.length ≤ 16384) :
    Calls Try.prog 49 #[v] w fun e w' => ∃ v', e = .returned v' ∧ RowV w' v' l ∧ (∀ q, v'.ownBlock = some q → w.heap.size ≤ q) ∧ Fr [] w w' := by
  obtain ⟨i0, hi, hz0, hz1, hz2⟩ := info_parts Try.info34
  rcases h.2 with ⟨rfl, h0⟩ | ⟨g, cap, cur, e, hg, hcur, hnc, hcm, hcs, htk⟩
  · have hn : l = [] := List.length_eq_zero_iff.1 (by simpa using h0)
    subst hn
    refine (AnyE.slices_Clone_nil Try.laysCloneL 0 0 w).mono ?_
    rintro _ _ ⟨rfl, rfl⟩
    exact ⟨_, rfl, h, fun q e => (by cases e), Fr.refl _ _⟩
  · subst e
    refine (AnyE.slices_Clone Try.laysCloneL i0 lvZero 7 56 hi hz0 hz1 hz2 rfl (by decide) Try.sizeOf34 g 0 l.length cap (rowV l) w (by rw [rowV_len]) (by unfold maxLen; omega) (by omega) (fun j u hj => ?_) (rowV_one l)).mono ?_
    · have hjl : j < l.length * 7 := by have := (List.getElem?_eq_some_iff.1 hj).1; rwa [rowV_len] at this
      rw [← htk, List.getElem?_take, if_pos hjl] at hj
      simp [World.cell?, hcur] at hj ⊢
      exact hj
    · rintro _ w' ⟨v', rfl, h1, _, hB⟩
      exact ⟨v', rfl, ownsRow_to0 h1, ownsRow_new h1, Fr.of_below hB⟩
theorem smap_clone {w : World} {mb n : Nat} {m : Int → Option Value} (h : IMap Try.prog 30 .u64 okS w mb m n) :
    Calls Try.prog 50 #[.map (some mb)] w fun e w' => e = .returned (.map (some w.heap.size)) ∧ IMap Try.prog 30 .u64 okS w' w.heap.size m n ∧ Fr [] w w' := by
  obtain ⟨D, h1, h2, h3, h4⟩ := h
  refine (AnyW.maps_Clone_owns Try.laysCloneMS 30 (tokR okS) mb n D w h1).mono ?_
  rintro _ w' ⟨rfl, k1, _, hB⟩
  exact ⟨rfl, ⟨D, k1, h2, h3, h4⟩, Fr.of_below hB⟩

/-- The copied map while it is filled with copies of the lists. -/
structure CI (w : World) (B mc : Nat) (iv iv' : Int → Option Value) (f : Nat → List Nat) (n : Nat) (dn : List Int) (lc : List Nat) : Prop where
  im : IMap Try.prog 30 .u64 okS w mc iv' n
  ge : ∀ q ∈ lc, B ≤ q
  lt : ∀ q ∈ lc, q < w.heap.size
  nm : mc ∉ lc
  row : ∀ id : Nat, id < U64 → (id : Int) ∈ dn → ((iv' id).isSome = true ∧ (iv id).isSome = true) ∧ RowI w ((iv' id).getD nilS) (f id) ∧ ∀ q, ((iv' id).getD nilS).ownBlock = some q → q ∈ lc
  old : ∀ id : Nat, id < U64 → (id : Int) ∉ dn → iv' id = iv id
  inj : ∀ (id id' q : Nat), id < U64 → id' < U64 → (id : Int) ∈ dn → (id' : Int) ∈ dn → ((iv' id).getD nilS).ownBlock = some q → ((iv' id').getD nilS).ownBlock = some q → id = id'
section
variable {w w' w1 w2 : World} {B mc n : Nat} {iv iv' : Int → Option Value} {f : Nat → List Nat} {dn : List Int} {lc S : List Nat}
theorem CI.fr (h : CI w B mc iv iv' f n dn lc) (hf : Fr S w w') (h1 : mc ∉ S) (h2 : ∀ q ∈ lc, q ∉ S) : CI w' B mc iv iv' f n dn lc :=
  ⟨h.im.same (hf.keep mc h.im.lt h1), h.ge, fun q hq => Nat.lt_of_lt_of_le (h.lt q hq) hf.size, h.nm, fun id hid hd => ⟨(h.row id hid hd).1, (h.row id hid hd).2.1.fr hf (fun q hq => h2 q ((h.row id hid hd).2.2 q hq)), (h.row id hid hd).2.2⟩, h.old, h.inj⟩
theorem CI.start (h : IMap Try.prog 30 .u64 okS w mc iv n) : CI w B mc iv iv f n [] [] :=
  ⟨h, by simp, by simp, by simp, fun _ _ h => by simp at h, fun _ _ _ => rfl, fun _ _ _ _ _ h => by simp at h⟩
theorem CI.put (h : CI w B mc iv iv' f n dn lc) {id : Nat} (hid : id < U64) (hs : (iv id).isSome = true) (hd : (id : Int) ∉ dn) {v1 : Value} (hr : RowI w1 v1 (f id)) (hq : ∀ q, v1.ownBlock = some q → w.heap.size ≤ q) (hB : B ≤ w.heap.size)
    (hF : Fr [] w w1) (hI : IMap Try.prog 30 .u64 okS w2 mc (updM iv' id (some v1)) (if (iv' id).isSome = true then n else n + 1)) (hF2 : Fr [mc] w1 w2) : CI w2 B mc iv (updM iv' id (some v1)) f n (dn ++ [(id : Int)]) (lc ++ v1.ownBlock.toList) := by
  have hml := h.im.lt
  have hs1 := hF.size
  have hs2 := hF2.size
  rw [h.old id hid hd, if_pos hs] at hI
  have hm1 : ∀ q, v1.ownBlock = some q → q ≠ mc := fun q hqq e => by have := hq q hqq; omega
  refine ⟨hI, fun q hqm => ?_, fun q hqm => ?_, fun hm => ?_, fun x hx hxd => ?_, fun x hx hxd => ?_, fun x y q hx hy hxd hyd hxq hyq => ?_⟩
  · rcases List.mem_append.1 hqm with e | e
    · exact h.ge q e
    · have := hq q (by simpa using e); omega
  · rcases List.mem_append.1 hqm with e | e
    · have := h.lt q e; omega
    · have := hr.lt (q := q) (by simpa using e); omega
  · rcases List.mem_append.1 hm with e | e
    · exact h.nm e
    · exact hm1 mc (by simpa using e) rfl
  · by_cases e : x = id
    · subst e
      rw [updM_same]
      exact ⟨⟨rfl, hs⟩, hr.fr hF2 (fun q hqq hm => hm1 q hqq (by simpa using hm)), fun q hqq => List.mem_append.2 (.inr (by simpa using hqq))⟩
    · rw [updM_other (by omega)]
      have hxd' : (x : Int) ∈ dn := by
        rcases List.mem_append.1 hxd with e1 | e1
        · exact e1
        · simp at e1; omega
      obtain ⟨a1, a2, a3⟩ := h.row x hx hxd'
      exact ⟨a1, (a2.fr hF (by simp)).fr hF2 (fun q hqq hm => h.nm (by have := a3 q hqq; rw [List.mem_singleton] at hm; rwa [hm] at this)), fun q hqq => List.mem_append.2 (.inl (a3 q hqq))⟩
  · have e : x ≠ id := fun e => hxd (by simp [e])
    rw [updM_other (by omega)]
    exact h.old x hx (fun hm => hxd (by simp [hm]))
  · have hin : ∀ y : Nat, y ≠ id → (y : Int) ∈ dn ++ [(id : Int)] → (y : Int) ∈ dn := fun y hy hm => by
      rcases List.mem_append.1 hm with e1 | e1
      · exact e1
      · simp at e1; omega
    by_cases ex : x = id
    · by_cases ey : y = id
      · rw [ex, ey]
      · subst ex
        rw [updM_same] at hxq
        rw [updM_other (by omega)] at hyq
        have h1 := hq q hxq
        have h2 := h.lt q ((h.row y hy (hin y ey hyd)).2.2 q hyq)
        omega
    · rw [updM_other (by omega)] at hxq
      by_cases ey : y = id
      · subst ey
        rw [updM_same] at hyq
        have h1 := hq q hyq
        have h2 := h.lt q ((h.row x hx (hin x ex hxd)).2.2 q hxq)
        omega
      · rw [updM_other (by omega)] at hyq
        exact h.inj x y q hx hy (hin x ex hxd) (hin y ey hyd) hxq hyq
/-- All lists are copied. -/
theorem CI.all (h : CI w B mc iv iv' f n dn lc) {w0 : World} {mb : Nat} {lb : List Nat} (h0 : IncI w0 mb iv f n lb) (hall : ∀ x, (Lit.int .u64 x).wf = true → (iv x).isSome = true → x ∈ dn) : IncI w mc iv' f n lc := by
  have hno : ∀ id : Nat, id < U64 → (id : Int) ∉ dn → iv' id = none ∧ f id = [] := fun id hid hd => by
    have h1 : (iv id).isSome = false := by
      cases hs : (iv id).isSome with
      | false => rfl
      | true => exact absurd (hall id (wf_u64 hid) hs) hd
    have h2 := h.old id hid hd
    refine ⟨by rw [h2]; simpa using h1, ?_⟩
    by_cases e : f id = []
    · exact e
    · have := (h0.row id hid).1.2 e
      rw [h1] at this; cases this
  refine ⟨h.im, h.nm, h.lt, fun id hid => ?_, fun id id' q hid hid' h1 h2 => ?_⟩
  · by_cases hd : (id : Int) ∈ dn
    · obtain ⟨a1, a2, a3⟩ := h.row id hid hd
      exact ⟨⟨fun _ => (h0.row id hid).1.1 a1.2, fun _ => a1.1⟩, a2, a3⟩
    · obtain ⟨a1, a2⟩ := hno id hid hd
      rw [a1, a2]
      exact ⟨by simp, RowI.nil _, fun q e => by cases e⟩
  · by_cases hd : (id : Int) ∈ dn
    · by_cases hd' : (id' : Int) ∈ dn
      · exact h.inj id id' q hid hid' hd hd' h1 h2
      · rw [(hno id' hid' hd').1] at h2; cases h2
    · rw [(hno id hid hd).1] at h1; cases h1
end
theorem Blk.frc {S : List Nat} {w w' : World} {b : Nat} {t : TypeId} {l : List Value} (h : Blk w b t l) (hf : Fr S w w') (hn : b ∉ S) : Blk w' b t l := hf.blk h hn
theorem Blk.fr0c {w w' : World} {b : Nat} {t : TypeId} {l : List Value} (h : Blk w b t l) (hf : Fr [] w w') : Blk w' b t l := hf.blk h (by simp)
section
variable {w w' : World} {ps : Nat} {s : Sm} {K : List Nat}
theorem st_copy (h : StoreAt w ps s K) : Calls Try.prog 26 #[sptr ps] w fun e w' => ∃ pc, e = .returned (sptr pc) ∧ ∃ K', StoreAt w' pc s K' ∧ Fr [] w w' ∧ ∀ q ∈ K', w.heap.size ≤ q := by
  have HV := Lib.hid (st_valid h)
  obtain ⟨pa, pt, mb, n, vl, la, lT, lb, c, hB, rfl, c0, c1, c2, c3, c4, c5, c6⟩ := h.open
  have HB := Lib.hid hB
  have HLT := Lib.hid hB.lt
  have hnE := hB.nE
  have hE := hB.ok.leE
  obtain ⟨iv, hI⟩ := hB.inc
  have HI := Lib.hid hI
  have HC1 := Lib.hid (fun (w' : World) (hf : Fr [] w w') => arena_copy (hB.ar.fr hf (by simp)))
  have HC2 := Lib.hid (fun (w' : World) (hf : Fr [] w w') => tab_copy (hB.tb.fr hf (by simp)))
  have HC3 := Lib.hid (fun (w' : World) (hf : Fr [] w w') => clone_live (hB.lv.fr0 hf) (by simp; omega))
  have HC4 := Lib.hid (fun (w' : World) (hf : Fr [] w w') => smap_clone (hI.fr hf (by simp) (by simp)).im)
  have hps := hB.hd.lt
  obtain ⟨av, cv, rfl⟩ : ∃ a cap, vl = .slice a n cap := by simpa using hB.lv.slice
  clear h hB hI
  go_enter Try.func26, Try.ntmps26
  go_wp2_with fail
  refine HV.out.mono ?_
  rintro _ w ⟨rfl, rfl⟩
  have hne : ps ≠ w.heap.size := by omega
  have hFa : Fr [] w (w.alloc (.cells #[.int .i64 s.V, .int .i64 s.E, .int .u64 s.last, ptr pa, ptr pt, .slice av n cv, .map (some mb)] 63)) := (Fr.refl [] w).alloc _
  have hB0 : Blk (w.alloc (.cells #[.int .i64 s.V, .int .i64 s.E, .int .u64 s.last, ptr pa, ptr pt, .slice av n cv, .map (some mb)] 63)) w.heap.size 63 [.int .i64 s.V, .int .i64 s.E, .int .u64 s.last, ptr pa, ptr pt, .slice av n cv, .map (some mb)] := Blk.new w _ _
  have hs0 : (w.alloc (.cells #[.int .i64 s.V, .int .i64 s.E, .int .u64 s.last, ptr pa, ptr pt, .slice av n cv, .map (some mb)] 63)).heap.size = w.heap.size + 1 := by simp
  go_wp2_with fail
  refine (HC1.out _ hFa).mono ?_
  rintro _ w2 ⟨pa', rfl, la', hA2, hF2, hl2⟩
  have hb2 := hF2.blk hB0 (by simp)
  have d2 := hb2.cell 3
  have z2 := hb2.frozen 3
  simp only [List.getElem?_cons_zero, List.getElem?_cons_succ] at d2
  have e4 := (hFa.trans' hF2).cell c4 (by simp)
  have hs2 := hF2.size
  have hl2' : ∀ q ∈ la', w.heap.size + 1 ≤ q := fun q hq => by have := hl2 q hq; omega
  have HF2 := Lib.hid (And.intro (hFa.trans' hF2) (And.intro hb2 (And.intro hA2 hl2')))
  clear hFa hB0 hF2 hb2 hA2 hl2 hl2' HC1 c0 c1 c2 c3
  go_wp2_with fail
  have hF3 : Fr [] w (w2.setCell ⟨w.heap.size, 3, none⟩ (ptr pa')) := HF2.out.1.setCell _ _ (.inr (Nat.le_refl _))
  have hb3 := HF2.out.2.1.set 3 (ptr pa')
  have hA3 := HF2.out.2.2.1.fr ((Fr.refl [w.heap.size] w2).setCell ⟨w.heap.size, 3, none⟩ (ptr pa') (.inl (by simp))) (fun q hq hm => by have := HF2.out.2.2.2 q hq; rw [List.mem_singleton] at hm; omega)
  have hs3 : (w2.setCell ⟨w.heap.size, 3, none⟩ (ptr pa')).heap.size = w2.heap.size := by simp
  simp only [List.set_cons_zero, List.set_cons_succ] at hb3
  have hl2 := HF2.out.2.2.2
  clear d2 z2 e4 HF2
  generalize w2.setCell ⟨w.heap.size, 3, none⟩ (ptr pa') = w3 at *
  have HF3 := Lib.hid (And.intro hF3 (And.intro hb3 (And.intro hA3 hl2)))
  have HLA := Lib.hid hA3.lt
  clear hb3 hA3 hl2
  refine (HC2.out _ hF3).mono ?_
  rintro _ w4 ⟨pt', rfl, lT', hT4, hF4, hl4⟩
  have hb4 := hF4.blk HF3.out.2.1 (by simp)
  have hA4 := HF3.out.2.2.1.fr hF4 (by simp)
  have d2 := hb4.cell 4
  have z2 := hb4.frozen 4
  simp only [List.getElem?_cons_zero, List.getElem?_cons_succ] at d2
  have e5 := (hF3.trans' hF4).cell c5 (by simp)
  have hs4 := hF4.size
  have HF4 := Lib.hid (And.intro (hF3.trans' hF4) (And.intro hb4 (And.intro hA4 (And.intro HF3.out.2.2.2 (And.intro hT4 (show ∀ q ∈ lT', w3.heap.size ≤ q from hl4))))))
  clear hF3 hF4 hb4 hA4 hT4 hl4 HC2 c4 HF3
  go_wp2_with fail
  have hF5 : Fr [] w (w4.setCell ⟨w.heap.size, 4, none⟩ (ptr pt')) := HF4.out.1.setCell _ _ (.inr (Nat.le_refl _))
  have hset : Fr [w.heap.size] w4 (w4.setCell ⟨w.heap.size, 4, none⟩ (ptr pt')) := (Fr.refl [w.heap.size] w4).setCell ⟨w.heap.size, 4, none⟩ (ptr pt') (.inl (by simp))
  have hb5 := HF4.out.2.1.set 4 (ptr pt')
  have hla3 := HF4.out.2.2.2.1
  have hA5 := HF4.out.2.2.1.fr hset (fun q hq hm => by have := hla3 q hq; rw [List.mem_singleton] at hm; omega)
  have hT5 := HF4.out.2.2.2.2.1.fr hset (fun q hq hm => by have := HF4.out.2.2.2.2.2 q hq; rw [List.mem_singleton] at hm; omega)
  have hs5 : (w4.setCell ⟨w.heap.size, 4, none⟩ (ptr pt')).heap.size = w4.heap.size := by simp
  have hl5 := HF4.out.2.2.2.2.2
  have hla4 := HF4.out.2.2.1.lt
  simp only [List.set_cons_zero, List.set_cons_succ] at hb5
  clear d2 z2 e5 HF4 hset
  generalize w4.setCell ⟨w.heap.size, 4, none⟩ (ptr pt') = w5 at *
  have HF5 := Lib.hid (And.intro hF5 (And.intro hb5 (And.intro hA5 (And.intro hla3 (And.intro hT5 hl5)))))
  have HLAT := Lib.hid (And.intro HLA.out hT5.lt)
  clear hb5 hA5 hla3 hT5 hl5 HLA
  refine (HC3.out _ hF5).mono ?_
  rintro _ w6 ⟨vl', rfl, hV6, hn6, hF6⟩
  obtain ⟨av', cv', rfl⟩ : ∃ a cap, vl' = .slice a n cap := by simpa using hV6.slice
  have hb6 := hF6.blk HF5.out.2.1 (by simp)
  have d2 := hb6.cell 5
  have z2 := hb6.frozen 5
  simp only [List.getElem?_cons_zero, List.getElem?_cons_succ] at d2
  have e6 := (hF5.trans' hF6).cell c6 (by simp)
  have hs6 := hF6.size
  have HF6 := Lib.hid (And.intro (hF5.trans' hF6) (And.intro hb6 (And.intro (HF5.out.2.2.1.fr hF6 (by simp)) (And.intro HF5.out.2.2.2.1 (And.intro (HF5.out.2.2.2.2.1.fr hF6 (by simp)) (And.intro HF5.out.2.2.2.2.2 (And.intro hV6 hn6)))))))
  clear hF5 hF6 hb6 hV6 hn6 HC3 c5 HF5
  go_wp2_with fail
  have hF7 : Fr [] w (w6.setCell ⟨w.heap.size, 5, none⟩ (.slice av' n cv')) := HF6.out.1.setCell _ _ (.inr (Nat.le_refl _))
  have hset : Fr [w.heap.size] w6 (w6.setCell ⟨w.heap.size, 5, none⟩ (.slice av' n cv')) := (Fr.refl [w.heap.size] w6).setCell ⟨w.heap.size, 5, none⟩ _ (.inl (by simp))
  have hb7 := HF6.out.2.1.set 5 (.slice av' n cv')
  have hA7 := HF6.out.2.2.1.fr hset (fun q hq hm => by have := HF6.out.2.2.2.1 q hq; rw [List.mem_singleton] at hm; omega)
  have hT7 := HF6.out.2.2.2.2.1.fr hset (fun q hq hm => by have := HF6.out.2.2.2.2.2.1 q hq; rw [List.mem_singleton] at hm; omega)
  have hV7 := HF6.out.2.2.2.2.2.2.1.fr hset (fun q hq hm => by have := HF6.out.2.2.2.2.2.2.2 q hq; rw [List.mem_singleton] at hm; omega)
  have hs7 : (w6.setCell ⟨w.heap.size, 5, none⟩ (.slice av' n cv')).heap.size = w6.heap.size := by simp
  simp only [List.set_cons_zero, List.set_cons_succ] at hb7
  have HL7 := Lib.hid (And.intro HF6.out.2.2.2.1 (And.intro HF6.out.2.2.2.2.2.1 HF6.out.2.2.2.2.2.2.2))
  have hlT6 := HF6.out.2.2.2.2.1.lt
  clear d2 z2 e6 HF6 hset
  generalize w6.setCell ⟨w.heap.size, 5, none⟩ (.slice av' n cv') = w7 at *
  have HF7 := Lib.hid (And.intro hF7 (And.intro hb7 (And.intro hA7 (And.intro hT7 hV7)))); clear hb7 hA7 hT7 hV7
  refine (HC4.out _ hF7).mono ?_
  rintro _ w8 ⟨rfl, hM8, hF8⟩
  rw [hs7] at hM8
  have hb8 := hF8.blk HF7.out.2.1 (by simp)
  have d2 := hb8.cell 6
  have z2 := hb8.frozen 6
  simp only [List.getElem?_cons_zero, List.getElem?_cons_succ] at d2
  have e7 := (hF7.trans' hF8).cell c6 (by simp)
  have hs8 := hF8.size
  have hml := hM8.lt
  have hvo : ∀ q, (Value.slice av' n cv').ownBlock = some q → w.heap.size + 1 ≤ q ∧ q < w6.heap.size := fun q hq => ⟨by have := HL7.out.2.2 q hq; omega, by have := HF7.out.2.2.2.2.lt hq; omega⟩
  have hlA := HF7.out.2.2.1.lt
  have hlT := HF7.out.2.2.2.1.lt
  have hset : Fr [w.heap.size] w8 (w8.setCell ⟨w.heap.size, 6, none⟩ (.map (some w6.heap.size))) := (Fr.refl _ w8).setCell ⟨w.heap.size, 6, none⟩ _ (.inl (by simp))
  have hF9 : Fr [] w (w8.setCell ⟨w.heap.size, 6, none⟩ (.map (some w6.heap.size))) := (hF7.trans' hF8).setCell _ _ (.inr (Nat.le_refl _))
  have hb9 := hb8.set 6 (.map (some w6.heap.size))
  simp only [List.set_cons_zero, List.set_cons_succ] at hb9
  have hn9 : ∀ q, w.heap.size + 1 ≤ q → q ∉ [w.heap.size] := fun q hq hm => by rw [List.mem_singleton] at hm; omega
  have hA9 := (HF7.out.2.2.1.fr hF8 (by simp)).fr hset (fun q hq => hn9 q (HL7.out.1 q hq))
  have hT9 := (HF7.out.2.2.2.1.fr hF8 (by simp)).fr hset (fun q hq => hn9 q (by have := HL7.out.2.1 q hq; omega))
  have hV9 := (HF7.out.2.2.2.2.fr0 hF8).fr hset (fun q hq => hn9 q (hvo q hq).1)
  have hM9 := hM8.same (hset.keep _ hml (hn9 _ (by omega)))
  have HIM := Lib.hid (HI.out.fr hF9 (by simp) (by simp))
  have hc6 := hb9.cell 6
  simp only [List.getElem?_cons_zero, List.getElem?_cons_succ] at hc6
  have hs9 : (w8.setCell ⟨w.heap.size, 6, none⟩ (.map (some w6.heap.size))).heap.size = w8.heap.size := by simp
  have H9 := Lib.hid (And.intro hF9 (And.intro hb9 (And.intro hA9 (And.intro hT9 (And.intro hV9 hM9)))))
  have HVO := Lib.hid (And.intro hvo (And.intro (fun q (hq : q ∈ la') => And.intro (HL7.out.1 q hq) (show q < w6.heap.size by have := hlA q hq; omega)) (fun q (hq : q ∈ lT') => And.intro (show w.heap.size + 1 ≤ q by have := HL7.out.2.1 q hq; omega) (And.intro (show w3.heap.size ≤ q from HL7.out.2.1 q hq) (show q < w6.heap.size by have := hlT q hq; omega)))))
  clear hF7 hF8 hb8 hM8 HC4 HF7 hset hF9 hb9 hn9 hA9 hT9 hV9 hM9 hvo hlA hlT hml c6
  go_wp2_with (first | (at_range; refine wpList_irange rfl _ rfl HIM.out.im Try.underlying30 Try.underlying61 rfl ?_; intro w10 cnt0 hI0 hc0 hF0 hs0) | fail)
  go_frame
  generalize w8.setCell ⟨w.heap.size, 6, none⟩ (.map (some w6.heap.size)) = w9 at *
  clear hs9
  have hm6 := H9.out.2.2.2.2.2.lt
  have HI0 := Lib.hid (And.intro hI0 (And.intro hF0 hs0))
  have hs90 := hF0.size
  clear hI0 hF0 hs0
  have hnmm : s.M.L.length < maxLen := by have := HB.out.ok.md.len; unfold maxLen; omega
  obtain ⟨nm, hnm⟩ : ∃ nm, nm = s.M.L.length := ⟨_, rfl⟩
  rw [← hnm] at H9 HI0 HIM hnmm HI
  have HNM := Lib.hid hnm
  clear hnm hc0 d2 z2 e7 hc6
  have hcl : ∀ id, (incL s.L id).length ≤ 16384 := fun id => by
    have h1 := incL_len s.L id
    have h2 := Sm.len_used HB.out.ok
    have h3 := HB.out.ok.ar.hb; have h4 := HB.out.ok.sl
    unfold Ar.used at h2
    omega
  have HCL := Lib.hid (And.intro hcl hnmm); clear hcl hnmm
  have hmbw : mb < w.heap.size := HLT.out mb (by simp [stK])
  have hs10 := HI0.out.2.2
  have hrbm : w9.heap.size ≠ mb := by have := HIM.out.im.lt; omega
  go_loopw [] (fun wr => ∃ (dn : List Int) (cnt : Nat) (iv' : Int → Option Value) (lc : List Nat), Hid (IRange Try.prog 30 .u64 okS wr mb w9.heap.size iv nm dn cnt ∧ CI wr w10.heap.size w6.heap.size iv iv' (incL s.L) nm dn lc ∧ Fr [w6.heap.size, w9.heap.size] w10 wr)) (fun wr => wr.rangeLeft mb w9.heap.size)
  case atStart => exact ⟨[], cnt0, iv, [], Lib.hid ⟨HI0.out.1, (CI.start (H9.out.2.2.2.2.2)).fr HI0.out.2.1 (by simp) (by simp), Fr.refl _ _⟩⟩
  case round =>
    obtain ⟨dn, cnt, iv', lc, HR⟩ := hrel
    rename World => wr
    have hF10 : Fr [] w wr := (H9.out.1.trans' HI0.out.2.1).trans HR.out.2.2 (fun q hq => .inr (by simp at hq; omega))
    have HFW := Lib.hid hF10
    have hsr := HR.out.2.2.size
    clear hF10
    go_wp2_with (first | (at_next; refine wpList_inext rfl _ rfl Try.underlying30 rfl HR.out.1 ?_ ?_) | fail)
    · intro hall
      have HA := Lib.hid hall; clear hall
      go_wp2_with fail
      go_ret
      have hII := HR.out.2.1.all (HI.out) HA.out
      have hF1 : Fr [w6.heap.size, w9.heap.size] w9 wr := (HI0.out.2.1.mono (by simp)).trans' HR.out.2.2
      have hno : ∀ q, q < w6.heap.size → q ∉ [w6.heap.size, w9.heap.size] := fun q hq hm => by simp at hm; omega
      have hge := HR.out.2.1.ge
      refine ⟨_, rfl, _, ⟨pa', pt', w6.heap.size, n, .slice av' n cv', la', lT', lc, fun x => if x = w.heap.size then 0 else if x = w6.heap.size then 1 else if w10.heap.size ≤ x then 5 else if x ∈ la' then 2 else if x ∈ lT' then 3 else 4, ⟨hF1.blk H9.out.2.1 (hno _ (by omega)), H9.out.2.2.1.fr hF1 (fun q hq => hno q (HVO.out.2.1 q hq).2), H9.out.2.2.2.1.fr hF1 (fun q hq => hno q (HVO.out.2.2 q hq).2.2), H9.out.2.2.2.2.1.fr hF1 (fun q hq => hno q (HVO.out.1 q hq).2), ⟨iv', by rw [← HNM.out]; exact hII⟩, HB.out.sn, hnE, HB.out.ok, ?_⟩, rfl⟩, HFW.out, ?_⟩
      · have h1 := HVO.out.1
        have h2 := HVO.out.2.1
        have h3 := HVO.out.2.2
        have hL := HLAT.out
        refine ⟨if_pos rfl, ?_, fun q hq => ?_, fun q hq => ?_, fun q hq => ?_, fun q hq => ?_⟩
        · rw [if_neg (by omega), if_pos rfl]
        · have := h2 q hq
          rw [if_neg (by omega), if_neg (by omega), if_neg (by omega), if_pos hq]
        · have := h3 q hq
          have hn : q ∉ la' := fun hm => by have := hL.1 q hm; omega
          rw [if_neg (by omega), if_neg (by omega), if_neg (by omega), if_neg hn, if_pos hq]
        · have := h1 q hq
          have h5 := HL7.out.2.2 q hq
          have hn : q ∉ la' := fun hm => by have := hL.1 q hm; omega
          have hn2 : q ∉ lT' := fun hm => by have := hL.2 q hm; omega
          rw [if_neg (by omega), if_neg (by omega), if_neg (by omega), if_neg hn, if_neg hn2]
        · have := hge q hq
          rw [if_neg (by omega), if_neg (by omega), if_pos this]
      · intro q hq
        simp only [stK, List.mem_cons, List.mem_append, Option.mem_toList] at hq
        rcases hq with rfl | rfl | ((hq | hq) | hq) | hq
        · exact Nat.le_refl _
        · omega
        · have := (HVO.out.2.1 q hq).1; omega
        · have := (HVO.out.2.2 q hq).1; omega
        · have := (HVO.out.1 q hq).1; omega
        · have := hge q hq; omega
    · intro x cv0 w1 cnt1 hwx hm hnd hI1 hlt1 hF1 hs1 hen
      obtain ⟨id, rfl, hid⟩ := u64_of_wf hwx
      have hFw1 : Fr [] w w1 := HFW.out.trans hF1 (fun q hq => .inr (by rw [List.mem_singleton] at hq; omega))
      have hrow := ((HI.out.fr hFw1 (by simp) (by simp)).row id hid).2.1
      rw [hm] at hrow
      obtain ⟨ac, cc, ec⟩ := hrow.slice
      simp only [Option.getD_some] at ec hrow
      subst ec
      have hCL := clone_ints (hrow.fr0 ((Fr.refl [] w1).drew)) (HCL.out.1 id)
      have hCI := HR.out.2.1.fr hF1 (by simp; omega) (fun q hq hm => by have := HR.out.2.1.ge q hq; rw [List.mem_singleton] at hm; omega)
      have HPU := Lib.hid (show ∀ (w5 : World) (v5 : Value), Fr [] w1 w5 → RowI w5 v5 (incL s.L id) → ∃ w6', (Instr.mapUpdate 61 (.map (some w6.heap.size)) (.int .u64 id) v5).run Try.prog w5 = .ok () w6' ∧ IMap Try.prog 30 .u64 okS w6' w6.heap.size (updM iv' id (some v5)) (if (iv' id).isSome = true then nm else nm + 1) ∧ Fr [w6.heap.size] w5 w6' from fun w5 v5 hf hr => by
        obtain ⟨a5, c5, rfl⟩ := hr.slice
        exact (hCI.im.same (hf.keep _ hCI.im.lt (by simp))).put Try.underlying30 Try.underlying61 HCL.out.2 (wf_u64 hid) rfl)
      have hb1 := (((H9.out.2.1.fr0c HI0.out.2.1).frc HR.out.2.2 (by simp; omega)).frc hF1 (by simp; omega)).cell 6
      simp only [List.getElem?_cons_zero, List.getElem?_cons_succ] at hb1
      have HK := Lib.hid (fun (w' : World) (S : List Nat) (hf : Fr S w1 w') (hs : w.heap.size ∉ S) => hf.cell hb1 hs)
      have HNC := Lib.hid (show w.heap.size ∉ [w6.heap.size] by simp; omega)
      have HCLn := Lib.hid hCL
      have HX := Lib.hid (And.intro hCI (And.intro hI1 (And.intro hF1 (And.intro hnd hm))))
      clear hCL hCI hrow hI1 hF1 hnd hm hFw1 hwx
      go_wp2_with fail
      go_region_held3 (fun w' => w'.cell? ⟨w.heap.size, 6, none⟩ = some (.map (some w6.heap.size)))
        (first
          | with_reducible exact HK.out _ _ hF16 HNC.out
          | with_reducible exact HK.out _ _ hF15 (by simp)
          | with_reducible exact HK.out _ _ ((Fr.refl [] w1).drew) (by simp))
        (first
          | (go_at_call 39; with_reducible refine Calls.mono HCLn.out ?_; rintro r w5' ⟨v5, rfl, hr5, hn5, hF5⟩
             have hF15 : Fr [] w1 w5' := ((Fr.refl [] w1).drew).trans' hF5
             obtain ⟨w6', hrun6, hM6, hG6⟩ := HPU.out w5' v5 hF15 hr5
             have hF16 : Fr [w6.heap.size] w1 w6' := (hF15.mono (by simp)).trans' hG6))
      all_goals
        go_wp2_with fail
        go_roundw
        case rel =>
          have hI6 := HX.out.2.1.fr hF16 (by simp; omega) (by simp; omega)
          refine ⟨dn ++ [(id : Int)], cnt1, _, _, Lib.hid ⟨hI6, HX.out.1.put hid (by rw [HX.out.2.2.2.2]; rfl) HX.out.2.2.2.1 hr5 hn5 (by omega) hF15 hM6 hG6, (HR.out.2.2.trans HX.out.2.2.1 (fun q hq => .inl (by rw [List.mem_singleton] at hq; simp [hq]))).trans hF16 (fun q hq => .inl (by rw [List.mem_singleton] at hq; simp [hq]))⟩⟩
        case measure => rw [(HX.out.2.1.fr hF16 (by simp; omega) (by simp; omega)).left_eq, HR.out.1.left_eq]; omega
end
end Go.Proofs.Ytbegdgnhpklceaa

/- StoreCopies: two stores apart from each other; the walk. -/
namespace Go.Proofs.Ytbegdgnhpklceaa
open Go.RowKit
set_option maxRecDepth 10000
set_option maxHeartbeats 1600000

theorem sg_inc2 {W wr : World} {ps : Nat} {s : Sm} {Z : List Nat} (h : SG W wr ps s Z) (id : Nat) (hid : id < 18446744073709551616) : Calls Try.prog 21 #[sptr ps, .int .u64 id] wr fun e w' => ∃ v, e = .returned v ∧ RowI w' v (incL s.L id) ∧ Fr [] wr w' := by
  obtain ⟨K, h1, _⟩ := h
  refine (st_incident h1 id hid).mono ?_
  rintro _ w' ⟨v, rfl, k1, _, k3⟩
  exact ⟨v, rfl, k1, k3⟩
theorem incident_w {W w : World} {ps : Nat} {s : Sm} {Z : List Nat} {v : Value} (h : SG W w ps s Z) (hr : RowV w v s.L) (hn : s.L.length ≤ 65536) :
    Calls Try.prog 27 #[sptr ps, v] w fun e w' => e = .returned (.bool true) ∧ Fr [] w w' := by
  obtain ⟨av, cv, rfl⟩ := hr.slice
  have HS := Lib.hid h; clear h
  have HV := Lib.hid hr; clear hr
  go_enter Try.func27, Try.ntmps27
  go_wp2_with fail
  go_loopw [5] (fun x wr => ∃ d : Nat, d ≤ 16 ∧ x = .int .u64 d ∧ Hid (Fr [] w wr)) (fun x _ => 16 - (intOf x).toNat)
  case atStart => exact ⟨0, by omega, rfl, Lib.hid (Fr.refl _ _)⟩
  case round =>
    obtain ⟨d, hd, rfl, HF⟩ := hrel
    rename World => wr
    by_cases hlt : d < 16
    · have hdi : (d : Int) < 16 := by omega
      go_wp2_with fail
      go_loopw [6, 7] (fun x y wq => ∃ (j : Nat) (v' : Value), j ≤ s.L.length ∧ y = .int .i64 j ∧ v' = x ∧ Hid (RowI wq v' (incL (s.L.take j) d) ∧ (∀ q, v'.ownBlock = some q → wr.heap.size ≤ q) ∧ Fr [] wr wq)) (fun _ y _ => s.L.length - (intOf y).toNat)
      case atStart => exact ⟨0, nilS, Nat.zero_le _, rfl, rfl, Lib.hid ⟨⟨rfl, .inl ⟨rfl, rfl⟩⟩, fun q e => (by cases e), Fr.refl _ _⟩⟩
      case round =>
        obtain ⟨j, v', hj, rfl, rfl, HQ⟩ := hrel
        rename World => wq
        by_cases hjl : j < s.L.length
        · have hji : (j : Int) < s.L.length := by omega
          obtain ⟨b, cv', ev, _, _, _, hat⟩ := ((HV.out.fr0 HF.out).fr0 HQ.out.2.2).at hjl
          simp only [Value.slice.injEq, true_and] at ev
          obtain ⟨rfl, rfl⟩ := ev
          have hsn : incL (s.L.take (j + 1)) d = incL (s.L.take j) d ++ if (s.L[j]).at d = true then [(s.L[j]).slot] else [] := by
            rw [List.take_add_one, List.getElem?_eq_getElem hjl, Option.toList_some, incL_snoc]
          generalize s.L[j]'hjl = e at *
          have x0 := hat.1
          have x2 := hat.2.2.1
          have x3 := hat.2.2.2.1
          have hlen := Nat.le_trans (incL_len (s.L.take j) d) (show (s.L.take j).length ≤ 65536 by rw [List.length_take]; omega)
          clear hat
          cases hea : e.at d with
          | false =>
            rw [hea, if_neg (by simp), List.append_nil] at hsn
            have hea' := hea
            simp only [Lv.at, Bool.or_eq_false_iff, beq_eq_false_iff_ne] at hea'
            have g1 : ((e.u : Int) == (d : Int)) = false := by simp; omega
            have g2 : ((e.v : Int) == (d : Int)) = false := by simp; omega
            have HSN := Lib.hid hsn
            clear hea hea' hsn
            go_wp2_with fail
            exact ⟨⟨j + 1, v', by omega, by go_num, rfl, Lib.hid (by rw [HSN.out]; exact HQ.out)⟩, by simp [intOf]; omega⟩
          | true =>
            rw [hea, if_pos rfl] at hsn
            have HSN := Lib.hid hsn
            have hur := HQ.out.1
            obtain ⟨au, cu, rfl⟩ := hur.slice
            have hrow : (wq.alloc (.cells #[.int .i64 e.slot] 3)).ownsRow 0 3 1 (.slice au (incL (s.L.take j) d).length cu) (incL (s.L.take j) d).length (encN (incL (s.L.take j) d)) := hur.fr0 ((Fr.refl [] wq).alloc _)
            have HRW := Lib.hid hrow
            have HB := Lib.hid (show Blk (wq.alloc (.cells #[.int .i64 e.slot] 3)) wq.heap.size 3 [.int .i64 e.slot] from Blk.new wq [.int .i64 e.slot] 3)
            have hcase : (e.u : Int) = d ∨ (¬ (e.u : Int) = d ∧ (e.v : Int) = d) := by
              simp only [Lv.at, Bool.or_eq_true, beq_iff_eq] at hea
              omega
            clear hea hsn hrow hur
            have HRel := Lib.hid (show ∀ (g8 cap8 : Nat) (w8 : World), w8.ownsRow 0 3 1 (.slice (some ⟨g8, 0, none⟩) ((incL (s.L.take j) d).length + 1) cap8) ((incL (s.L.take j) d).length + 1) (encN (incL (s.L.take j) d) ++ [.int .i64 e.slot]) → (wq.alloc (.cells #[.int .i64 e.slot] 3)).grownBy w8 (Value.slice au (incL (s.L.take j) d).length cu).ownBlock → ((Value.slice au (incL (s.L.take j) d).length cu).ownBlock = some g8 ∨ (wq.alloc (.cells #[.int .i64 e.slot] 3)).heap.size ≤ g8) →
                RowI w8 (.slice (some ⟨g8, 0, none⟩) ((incL (s.L.take j) d).length + 1) cap8) (incL (s.L.take (j + 1)) d) ∧ (∀ q, (Value.slice (some ⟨g8, 0, none⟩) ((incL (s.L.take j) d).length + 1) cap8).ownBlock = some q → wr.heap.size ≤ q) ∧ Fr [] wr w8 from fun g8 cap8 w8 hown8 hgrow8 hg8 => by
              have hs0 := HQ.out.2.2.size
              refine ⟨?_, fun q hq => ?_, ?_⟩
              · rw [HSN.out]
                unfold RowI
                rw [List.length_append]
                have : encN (incL (s.L.take j) d ++ [e.slot]) = encN (incL (s.L.take j) d) ++ [.int .i64 e.slot] := by simp [encN]
                rw [this]
                exact hown8
              · simp only [Value.ownBlock, Option.some.injEq] at hq
                subst hq
                rcases hg8 with h | h
                · exact HQ.out.2.1 _ h
                · simp only [World.size_alloc] at h; omega
              · exact (HQ.out.2.2.alloc _).trans ((Fr.refl (Value.slice au (incL (s.L.take j) d).length cu).ownBlock.toList _).grown hgrow8 (fun q e => .inl (by simp [e]))) (fun q hq => .inr (HQ.out.2.1 q (by simpa using hq))))
            rcases hcase with h1 | ⟨h1, h2⟩
            · go_wp2_with (first | (at_builtin; refine wpList_appK rfl _ _ 46 rfl 3 (.int .i64 0) 1 8 Try.underlying46 Try.info3 rfl (by decide) (.slice au (incL (s.L.take j) d).length cu) (incL (s.L.take j) d).length _ rfl HRW.out wq.heap.size 3 [.int .i64 e.slot] rfl HB.out rfl (by simp [Value.oneCell']) (by omega) (by decide) ?_; intro g8 cap8 w8 hown8 hgrow8 hg8) | fail)
              exact ⟨⟨j + 1, _, by omega, by go_num, rfl, Lib.hid (HRel.out g8 cap8 w8 hown8 hgrow8 hg8)⟩, by simp [intOf]; omega⟩
            · go_wp2_with (first | (at_builtin; refine wpList_appK rfl _ _ 46 rfl 3 (.int .i64 0) 1 8 Try.underlying46 Try.info3 rfl (by decide) (.slice au (incL (s.L.take j) d).length cu) (incL (s.L.take j) d).length _ rfl HRW.out wq.heap.size 3 [.int .i64 e.slot] rfl HB.out rfl (by simp [Value.oneCell']) (by omega) (by decide) ?_; intro g8 cap8 w8 hown8 hgrow8 hg8) | fail)
              exact ⟨⟨j + 1, _, by omega, by go_num, rfl, Lib.hid (HRel.out g8 cap8 w8 hown8 hgrow8 hg8)⟩, by simp [intOf]; omega⟩
        · obtain rfl : j = s.L.length := by omega
          have hrw := HQ.out.1
          rw [List.take_length] at hrw
          have HRW := Lib.hid hrw
          have HI := Lib.hid (sg_inc2 (HS.out.go0 (HF.out.trans' HQ.out.2.2)) d (by omega))
          have hlen := Nat.le_trans (incL_len s.L d) hn
          clear hrw
          go_wp2_with fail
          refine HI.out.mono ?_
          rintro _ w8 ⟨v8, rfl, hr8, hF8⟩
          have hsm := sameInts_w hr8 (HRW.out.fr0 hF8) hlen hlen
          rw [decide_eq_true (rfl : incL s.L d = incL s.L d)] at hsm
          have HSm := Lib.hid hsm
          have HF8 := Lib.hid ((HF.out.trans' HQ.out.2.2).trans' hF8)
          clear hsm hr8 hF8 HI HRW
          go_wp2_with fail
          refine HSm.out.mono ?_
          rintro _ w9 ⟨rfl, hF9⟩
          have HF9 := Lib.hid (HF8.out.trans' hF9); clear hF9 HF8 HSm
          go_wp2_with fail
          exact ⟨⟨d + 1, by omega, by go_num, HF9⟩, by simp [intOf]; omega⟩
    · obtain rfl : d = 16 := by omega
      go_wp2_with fail
      go_ret
      exact ⟨rfl, HF.out⟩

/-- Two stores, made since W, apart from each other; guests Z. -/
def P2 (W wr : World) (ps : Nat) (s : Sm) (pc : Nat) (c : Sm) (Z : List Nat) : Prop :=
  ∃ K Kc, StoreAt wr ps s K ∧ StoreAt wr pc c Kc ∧ Fr [] W wr ∧ (∀ q ∈ K, W.heap.size ≤ q) ∧ (∀ q ∈ Kc, W.heap.size ≤ q) ∧ (∀ q ∈ K, q ∉ Kc) ∧ ∀ z ∈ Z, W.heap.size ≤ z ∧ z < wr.heap.size ∧ z ∉ K ∧ z ∉ Kc
section
variable {W wr w' : World} {ps pc : Nat} {s c : Sm} {Z Y : List Nat}
theorem P2.swap (h : P2 W wr ps s pc c Z) : P2 W wr pc c ps s Z := by
  obtain ⟨K, Kc, h1, h2, h3, h4, h5, h6, h7⟩ := h
  exact ⟨Kc, K, h2, h1, h3, h5, h4, fun q hq hm => h6 q hm hq, fun z hz => ⟨(h7 z hz).1, (h7 z hz).2.1, (h7 z hz).2.2.2, (h7 z hz).2.2.1⟩⟩
theorem P2.fst (h : P2 W wr ps s pc c Z) : SG W wr ps s Z := by
  obtain ⟨K, Kc, h1, h2, h3, h4, h5, h6, h7⟩ := h
  exact ⟨K, h1, h3, h4, fun z hz => ⟨(h7 z hz).1, (h7 z hz).2.1, (h7 z hz).2.2.1⟩⟩
theorem P2.snd (h : P2 W wr ps s pc c Z) : SG W wr pc c Z := h.swap.fst
theorem P2.go (h : P2 W wr ps s pc c Z) (hf : Fr [] wr w') (hy : ∀ y ∈ Y, y ∈ Z ∨ (wr.heap.size ≤ y ∧ y < w'.heap.size)) : P2 W w' ps s pc c Y := by
  obtain ⟨K, Kc, h1, h2, h3, h4, h5, h6, h7⟩ := h
  have hs := hf.size
  have hs2 := h3.size
  refine ⟨K, Kc, h1.fr0 hf, h2.fr0 hf, h3.trans' hf, h4, h5, h6, fun y hy' => ?_⟩
  rcases hy y hy' with e | e
  · have := h7 y e; exact ⟨this.1, by omega, this.2.2⟩
  · exact ⟨by omega, e.2, fun hm => by have := h1.lt y hm; omega, fun hm => by have := h2.lt y hm; omega⟩
theorem P2.go0 (h : P2 W wr ps s pc c Z) (hf : Fr [] wr w') : P2 W w' ps s pc c Z := h.go hf (fun y hy => .inl hy)
theorem P2.alloc (h : P2 W wr ps s pc c Z) (o : Obj) : P2 W (wr.alloc o) ps s pc c (wr.heap.size :: Z) := h.go ((Fr.refl [] wr).alloc o) (fun y hy => (List.mem_cons.1 hy).elim (fun e => .inr ⟨by omega, by simp; omega⟩) .inl)
/-- A step of the second one. -/
theorem P2.stepC (h : P2 W wr ps s pc c Z) {c' : Sm} {f : Nat} {args : Array Value} {r : Value} (hstep : ∀ Z', SG W wr pc c Z' → Calls Try.prog f args wr fun e w' => e = .returned r ∧ SG W w' pc c' Z' ∧ Gu Z' wr w') :
    Calls Try.prog f args wr fun e w' => e = .returned r ∧ P2 W w' ps s pc c' Z ∧ Gu Z wr w' := by
  obtain ⟨K, Kc, h1, h2, h3, h4, h5, h6, h7⟩ := h
  refine (hstep (K ++ Z) ⟨Kc, h2, h3, h5, fun z hz => ?_⟩).mono ?_
  · rcases List.mem_append.1 hz with e | e
    · exact ⟨h4 z e, h1.lt z e, h6 z e⟩
    · have := h7 z e; exact ⟨this.1, this.2.1, this.2.2.2⟩
  · rintro _ w' ⟨rfl, ⟨Kc', k1, k2, k3, k4⟩, hG⟩
    refine ⟨rfl, ⟨K, Kc', hG.store h1 (fun q hq => List.mem_append.2 (.inl hq)), k1, k2, h4, k3, fun q hq => (k4 q (List.mem_append.2 (.inl hq))).2.2, fun z hz => ?_⟩, hG.mono (fun y hy => List.mem_append.2 (.inr hy))⟩
    have hk := k4 z (List.mem_append.2 (.inr hz))
    exact ⟨hk.1, hk.2.1, (h7 z hz).2.2.1, hk.2.2⟩
theorem sg_copy (h : SG W wr ps s Z) : Calls Try.prog 26 #[sptr ps] wr fun e w' => ∃ pc, e = .returned (sptr pc) ∧ P2 W w' ps s pc s Z ∧ Fr [] wr w' := by
  obtain ⟨K, h1, h2, h3, h4⟩ := h
  refine (st_copy h1).mono ?_
  rintro _ w' ⟨pc, rfl, Kc, k1, k2, k3⟩
  have hs := k2.size
  have hs2 := h2.size
  exact ⟨pc, rfl, ⟨K, Kc, h1.fr0 k2, k1, h2.trans' k2, h3, fun q hq => by have := k3 q hq; omega, fun q hq hm => by have := k3 q hm; have := h1.lt q hq; omega, fun z hz => ⟨(h4 z hz).1, by have := (h4 z hz).2.1; omega, (h4 z hz).2.2, fun hm => by have := k3 z hm; have := (h4 z hz).2.1; omega⟩⟩, k2⟩
end
end Go.Proofs.Ytbegdgnhpklceaa

namespace Go.Proofs.Ytbegdgnhpklceaa
open Go.RowKit
set_option maxRecDepth 10000
set_option maxHeartbeats 1600000

/-- How many of the first m slots from -1 on are in use. -/
def foundN (s : Sm) : Nat → Nat
  | 0 => 0
  | m + 1 => foundN s m + if s.has ((m : Int) - 1) = true then 1 else 0
theorem foundN_filter (s : Sm) : ∀ m, foundN s m = ((List.range m).filter fun j : Nat => s.has ((j : Int) - 1)).length
  | 0 => rfl
  | m + 1 => by
    rw [List.range_succ, List.filter_append, List.length_append, ← foundN_filter s m]
    show foundN s m + _ = _
    cases h : s.has ((m : Int) - 1) <;> simp [h]
theorem foundN_all {s : Sm} (h : s.Ok) (hE : s.E = 20) : foundN s 22 = s.L.length := by
  rw [foundN_filter]
  have hp : ((List.range 22).filter fun j : Nat => s.has ((j : Int) - 1)).Perm ((s.L.map (·.slot)).map (· + 1)) := by
    refine (List.perm_ext_iff_of_nodup (List.nodup_range.filter _) ?_).2 fun j => ?_
    · exact List.pairwise_map.2 (h.one.imp fun hab e => hab (by omega))
    · rw [List.mem_filter, List.mem_range, List.map_map, List.mem_map]
      constructor
      · rintro ⟨_, hj⟩
        obtain ⟨h0, hu⟩ := (Sm.has_iff h _).1 hj
        obtain ⟨e, he, hs⟩ := (h.used _).1 hu
        exact ⟨e, he, by simp only [Function.comp]; omega⟩
      · rintro ⟨e, he, rfl⟩
        have hu := (h.used _).2 ⟨e, he, rfl⟩
        have h1 := hu.1
        have h2 := h.ar.hb
        have h3 := h.sl
        simp only [Function.comp]
        refine ⟨by omega, (Sm.has_iff h _).2 ⟨by omega, ?_⟩⟩
        rw [show ((e.slot + 1 : Nat) : Int) - 1 = (e.slot : Int) by omega, Int.toNat_natCast]
        exact hu
  have := hp.length_eq
  rw [List.length_map, List.length_map] at this
  exact this
theorem has_mem {s : Sm} (h : s.Ok) {e : Lv} (he : e ∈ s.L) : s.has e.slot = true ∧ s.got e.slot = e := by
  refine ⟨(Sm.has_iff h _).2 ⟨by omega, (h.used _).2 ⟨e, he, by simp⟩⟩, ?_⟩
  unfold Sm.got
  rw [if_pos (by omega), Int.toNat_natCast]
  exact liveAt_mem h.one he

theorem walk_storeKeeps (W : World) (a : Option Addr) (len cap : Nat) (z : Nat → Bool × Nat × Nat × Nat) (hz : MovesF W a len z) :
    Calls Try.prog 3 #[.slice a len cap] W fun e w' => e = .returned (.bool true) ∧ Below W.heap.size W w' := by
  have HM := Lib.hid (moved_w W a len cap z hz)
  have HWk := Lib.hid (fun w => works_w w)
  clear hz
  go_enter Try.func3, Try.ntmps3
  go_wp2_with fail
  refine HM.out.mono ?_
  rintro _ w1 ⟨ps, s, v, rfl, hS, hr, hb⟩
  clear HM
  have hn := hb.len hS.ok
  obtain ⟨av, cv, rfl⟩ := hr.slice
  have HL := Lib.hid (sg_len hS)
  have HLi := Lib.hid (sg_list hS)
  have HR := Lib.hid (And.intro hr hb); clear hS hr hb
  go_wp2_with fail
  refine HL.out.mono ?_
  rintro _ w1 ⟨rfl, rfl⟩
  clear HL
  go_wp2_with fail
  refine HLi.out.mono ?_
  rintro _ w2 ⟨v2, rfl, hr2, hS2, hF2⟩
  have hsm := same_w hr2 (HR.out.1.fr0 hF2) (by omega) (by omega)
  rw [decide_eq_true (rfl : s.L = s.L)] at hsm
  have HSm := Lib.hid hsm
  have HX := Lib.hid (And.intro (hS2.sub (Y := (Value.slice av s.L.length cv).ownBlock.toList) (fun y hy => List.mem_append.2 (.inr hy))) (And.intro (HR.out.1.fr0 hF2) HR.out.2))
  clear HLi hsm hr2 hS2 hF2 HR
  go_wp2_with fail
  refine HSm.out.mono ?_
  rintro _ w3 ⟨rfl, hF3⟩
  have HY := Lib.hid (And.intro (HX.out.1.go0 hF3) (And.intro (HX.out.2.1.fr0 hF3) HX.out.2.2))
  clear HX HSm hF3
  go_wp2_with fail
  go_loopw [6] (fun i wr => ∃ k : Nat, k ≤ s.L.length ∧ i = .int .i64 k ∧ Hid (SG W wr ps s (Value.slice av s.L.length cv).ownBlock.toList ∧ RowV wr (.slice av s.L.length cv) s.L)) (fun i _ => s.L.length - (intOf i).toNat)
  case atStart => exact ⟨0, Nat.zero_le _, rfl, Lib.hid ⟨HY.out.1, HY.out.2.1⟩⟩
  case round =>
    obtain ⟨k, hk, rfl, HR⟩ := hrel
    rename World => wr
    by_cases hlt : k < s.L.length
    · have hki : (k : Int) < s.L.length := by omega
      obtain ⟨b, cv', ev, _, hbl, _, hat⟩ := HR.out.2.at hlt
      simp only [Value.slice.injEq, true_and] at ev
      obtain ⟨rfl, rfl⟩ := ev
      obtain ⟨e, he⟩ : ∃ e, e = s.L[k] := ⟨_, rfl⟩
      rw [← he] at hat
      have hem := has_mem HR.out.1.ok (e := e) (by rw [he]; exact List.getElem_mem hlt)
      have HG := Lib.hid (sg_get HR.out.1 e.slot)
      rw [hem.1, hem.2] at HG
      clear he hem
      have x0 := hat.1
      go_wp2_with fail
      refine HG.out.mono ?_
      rintro _ w5 ⟨rfl, hS5, hF5⟩
      clear HG x0
      have hf6 : Fr [] w5 (w5.alloc (.cells #[.int .i64 e.slot, .int .u64 e.seq, .int .u64 e.u, .int .u64 e.v, .int .i64 e.wt, .int .i64 e.t, .int .i64 e.x] 34)) := (Fr.refl [] w5).alloc _
      obtain ⟨x0, x1, x2, x3, x4, x5, x6⟩ := (hat.fr hF5 (by simp)).fr hf6 (by simp)
      have HS6 := Lib.hid (And.intro (hS5.go0 hf6) ((HR.out.2.fr0 hF5).fr0 hf6))
      have hbb : b ≠ w5.heap.size := by have := hF5.size; omega
      have hee : lvEq e e = true := decide_eq_true rfl
      clear hat hS5 hF5 hf6
      go_wp2_with fail
      go_quiet (fail)
      go_wp2_with fail
      exact ⟨⟨k + 1, by omega, by go_num, Lib.hid ⟨HS6.out.1.go0 (Fr.of_drewN _ _), HS6.out.2.fr0 (Fr.of_drewN _ _)⟩⟩, by simp [intOf]; omega⟩
    · obtain rfl : k = s.L.length := by omega
      have HS := Lib.hid HR.out.1
      clear HR hlt
      go_wp2_with fail
      go_loopw [9, 10] (fun f i wr => ∃ m : Nat, m ≤ 22 ∧ i = .int .i64 ((m : Int) - 1) ∧ f = .int .i64 (foundN s m) ∧ Hid (SG W wr ps s (Value.slice av s.L.length cv).ownBlock.toList)) (fun _ i _ => (21 - intOf i).toNat)
      case atStart => exact ⟨0, by omega, rfl, rfl, HS⟩
      case round =>
        clear HS
        obtain ⟨m, hm, rfl, rfl, HS⟩ := hrel
        rename World => wq
        by_cases hml : m < 22
        · have hmi : (m : Int) - 1 ≤ 20 := by omega
          have HG := Lib.hid (sg_get HS.out ((m : Int) - 1))
          have hfm : foundN s (m + 1) = foundN s m + if s.has ((m : Int) - 1) = true then 1 else 0 := rfl
          have hfl : foundN s m ≤ m := by rw [foundN_filter]; exact Nat.le_trans (List.length_filter_le _ _) (by simp)
          generalize s.has ((m : Int) - 1) = yes at *
          generalize s.got ((m : Int) - 1) = e at *
          have HFM := Lib.hid hfm; clear hfm
          go_wp2_with fail
          refine HG.out.mono ?_
          rintro _ w5 ⟨rfl, hS5, hF5⟩
          have HS5 := Lib.hid hS5; clear hS5 hF5 HG
          cases yes with
          | true =>
            rw [if_pos rfl] at HFM
            go_wp2_with fail
            exact ⟨⟨m + 1, by omega, by go_num, by rw [HFM.out]; go_num, Lib.hid ((HS5.out.alloc _).sub (fun y hy => List.mem_cons_of_mem _ hy))⟩, by simp [intOf]; omega⟩
          | false =>
            rw [if_neg (by simp)] at HFM
            go_wp2_with fail
            exact ⟨⟨m + 1, by omega, by go_num, by rw [HFM.out]; rfl, Lib.hid ((HS5.out.alloc _).sub (fun y hy => List.mem_cons_of_mem _ hy))⟩, by simp [intOf]; omega⟩
        · obtain rfl : m = 22 := by omega
          have hfa := foundN_all HS.out.ok HY.out.2.2.E
          rw [hfa]
          clear hfa hml hm
          go_wp2_with fail
          refine (HWk.out _).mono ?_
          rintro _ w9 ⟨rfl, hF9⟩
          have HF9 := Lib.hid (HS.out.go0 hF9); clear hF9
          go_wp2_with fail
          go_ret
          exact ⟨rfl, HF9.out.below⟩
end Go.Proofs.Ytbegdgnhpklceaa
