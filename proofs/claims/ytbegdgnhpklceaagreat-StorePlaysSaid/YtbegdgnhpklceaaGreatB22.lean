/- store laws: a step of a store and of the document's. -/
import Derived.Ground.SlmcProg
import Derived.Shelf.SlMaps.Clone
import Derived.StillTailTactics
import Derived.Test.YtbegdgnhpklceaaGreatB15
import Derived.Test.YtbegdgnhpklceaaGreatB21
import Derived.Test.YtbegdgnhpklceaaGreatB20
set_option linter.unusedSimpArgs false
set_option linter.unusedVariables false
/- store: Copy. -/
namespace Go.Proofs.YtbegdgnhpklceaaGreat
open Go.RowKit
set_option maxRecDepth 10000
set_option maxHeartbeats 1600000

def Tryz.laysCloneMS_ren : Go.Shelf.Ren := ⟨fun | 5 => 62 | 7 => 89 | n => n, fun | 23 => 71 | 25 => 22 | 3 => 56 | 4 => 4 | 20 => 20 | n => n, fun | n => n⟩
theorem Tryz.laysCloneMS : Go.Proofs.SlLaysW.n5 Tryz.prog Tryz.laysCloneMS_ren := {
  mixed := by kernel_rfl
  f5 := ⟨Tryz.f62.name, by decide, Tryz.func62.trans (congrArg some (by kernel_rfl))⟩
  f7 := Tryz.func89.trans (congrArg some (by kernel_rfl))
  t4 := Tryz.underlying4
  a4 := Tryz.isAgg4
  z4 := Tryz.sizeOf4
  v4 := Tryz.zeroValue4
  t20 := Tryz.underlying20
  a20 := Tryz.isAgg20
  z20 := Tryz.sizeOf20
  v20 := Tryz.zeroValue20
  t23 := Tryz.underlying71
  a23 := Tryz.isAgg71
  z23 := Tryz.sizeOf71
  v23 := Tryz.zeroValue71 }
def Tryz.laysCloneL_ren : Go.Shelf.Ren := ⟨fun | 41 => 61 | n => n, fun | 22 => 60 | 23 => 36 | 4 => 4 | n => n, fun | n => n⟩
theorem Tryz.laysCloneL : Go.Proofs.SlLaysE0.n41 Tryz.prog Tryz.laysCloneL_ren := {
  mixed := by kernel_rfl
  f41 := ⟨Tryz.f61.name, by decide, Tryz.func61.trans (congrArg some (by kernel_rfl))⟩
  t4 := Tryz.underlying4
  a4 := Tryz.isAgg4
  z4 := Tryz.sizeOf4
  v4 := Tryz.zeroValue4
  t22 := Tryz.underlying60
  a22 := Tryz.isAgg60
  z22 := Tryz.sizeOf60
  v22 := Tryz.zeroValue60 }

theorem clone_live {w : World} {v : Value} {l : List Lv} (h : RowV w v l) (hp : l.length ≤ 16384) :
    Calls Tryz.prog 61 #[v] w fun e w' => ∃ v', e = .returned v' ∧ RowV w' v' l ∧ (∀ q, v'.ownBlock = some q → w.heap.size ≤ q) ∧ Fr [] w w' := by
  obtain ⟨i0, hi, hz0, hz1, hz2⟩ := info_parts Tryz.info36
  rcases h.2 with ⟨rfl, h0⟩ | ⟨g, cap, cur, e, hg, hcur, hnc, hcm, hcs, htk⟩
  · have hn : l = [] := List.length_eq_zero_iff.1 (by simpa using h0)
    subst hn
    refine (AnyE.slices_Clone_nil Tryz.laysCloneL 0 0 w).mono ?_
    rintro _ _ ⟨rfl, rfl⟩
    exact ⟨_, rfl, h, fun q e => (by cases e), Fr.refl _ _⟩
  · subst e
    refine (AnyE.slices_Clone Tryz.laysCloneL i0 lvZero 7 56 hi hz0 hz1 hz2 rfl (by decide) Tryz.sizeOf36 g 0 l.length cap (rowV l) w (by rw [rowV_len]) (by unfold maxLen; omega) (by omega) (fun j u hj => ?_) (rowV_one l)).mono ?_
    · have hjl : j < l.length * 7 := by have := (List.getElem?_eq_some_iff.1 hj).1; rwa [rowV_len] at this
      rw [← htk, List.getElem?_take, if_pos hjl] at hj
      simp [World.cell?, hcur] at hj ⊢
      exact hj
    · rintro _ w' ⟨v', rfl, h1, _, hB⟩
      exact ⟨v', rfl, ownsRow_to0 h1, ownsRow_new h1, Fr.of_below hB⟩
theorem smap_clone {w : World} {mb n : Nat} {m : Int → Option Value} (h : IMap Tryz.prog 22 .u64 okS w mb m n) :
    Calls Tryz.prog 62 #[.map (some mb)] w fun e w' => e = .returned (.map (some w.heap.size)) ∧ IMap Tryz.prog 22 .u64 okS w' w.heap.size m n ∧ Fr [] w w' := by
  obtain ⟨D, h1, h2, h3, h4⟩ := h
  refine (AnyW.maps_Clone_owns Tryz.laysCloneMS 22 (tokR okS) mb n D w h1).mono ?_
  rintro _ w' ⟨rfl, k1, _, hB⟩
  exact ⟨rfl, ⟨D, k1, h2, h3, h4⟩, Fr.of_below hB⟩

/-- The copied map while it is filled with copies of the lists. -/
structure CI (w : World) (B mc : Nat) (iv iv' : Int → Option Value) (f : Nat → List Nat) (n : Nat) (dn : List Int) (lc : List Nat) : Prop where
  im : IMap Tryz.prog 22 .u64 okS w mc iv' n
  ge : ∀ q ∈ lc, B ≤ q
  lt : ∀ q ∈ lc, q < w.heap.size
  nm : mc ∉ lc
  row : ∀ id : Nat, id < U64 → (id : Int) ∈ dn → ((iv' id).isSome = true ∧ (iv id).isSome = true) ∧ RowI w ((iv' id).getD nilS) (f id) ∧ ∀ q, ((iv' id).getD nilS).ownBlock = some q → q ∈ lc
  old : ∀ id : Nat, id < U64 → (id : Int) ∉ dn → iv' id = iv id
  inj : ∀ (id id' q : Nat), id < U64 → id' < U64 → (id : Int) ∈ dn → (id' : Int) ∈ dn → ((iv' id).getD nilS).ownBlock = some q → ((iv' id').getD nilS).ownBlock = some q → id = id'
section
variable {w w' w1 w2 : World} {B mc n : Nat} {iv iv' : Int → Option Value} {f : Nat → List Nat} {dn : List Int} {lc S : List Nat}
theorem CI.fr (h : CI w B mc iv iv' f n dn lc) (hf : Fr S w w') (h1 : mc ∉ S) (h2 : ∀ q ∈ lc, q ∉ S) : CI w' B mc iv iv' f n dn lc :=
  ⟨h.im.same (hf.keep mc h.im.lt h1), h.ge, fun q hq => Nat.lt_of_lt_of_le (h.lt q hq) hf.size, h.nm, fun id hid hd => ⟨(h.row id hid hd).1, (h.row id hid hd).2.1.fr hf (fun q hq => h2 q ((h.row id hid hd).2.2 q hq)), (h.row id hid hd).2.2⟩, h.old, h.inj⟩
theorem CI.start (h : IMap Tryz.prog 22 .u64 okS w mc iv n) : CI w B mc iv iv f n [] [] :=
  ⟨h, by simp, by simp, by simp, fun _ _ h => by simp at h, fun _ _ _ => rfl, fun _ _ _ _ _ h => by simp at h⟩
theorem CI.put (h : CI w B mc iv iv' f n dn lc) {id : Nat} (hid : id < U64) (hs : (iv id).isSome = true) (hd : (id : Int) ∉ dn) {v1 : Value} (hr : RowI w1 v1 (f id)) (hq : ∀ q, v1.ownBlock = some q → w.heap.size ≤ q) (hB : B ≤ w.heap.size)
    (hF : Fr [] w w1) (hI : IMap Tryz.prog 22 .u64 okS w2 mc (updM iv' id (some v1)) (if (iv' id).isSome = true then n else n + 1)) (hF2 : Fr [mc] w1 w2) : CI w2 B mc iv (updM iv' id (some v1)) f n (dn ++ [(id : Int)]) (lc ++ v1.ownBlock.toList) := by
  have hml := h.im.lt
  have hs1 := hF.size
  have hs2 := hF2.size
  rw [h.old id hid hd, if_pos hs] at hI
  have hm1 : ∀ q, v1.ownBlock = some q → q ≠ mc := fun q hqq e => by have := hq q hqq; omega
  refine ⟨hI, fun q hqm => ?_, fun q hqm => ?_, fun hm => ?_, fun x hx hxd => ?_, fun x hx hxd => ?_, fun x y q hx hy hxd hyd hxq hyq => ?_⟩
  · rcases List.mem_append.1 hqm with e | e
    · exact h.ge q e
    · have := hq q (by simpa using e); omega
  · rcases List.mem_append.1 hqm with e | e
    · have := h.lt q e; omega
    · have := hr.lt (q := q) (by simpa using e); omega
  · rcases List.mem_append.1 hm with e | e
    · exact h.nm e
    · exact hm1 mc (by simpa using e) rfl
  · by_cases e : x = id
    · subst e
      rw [updM_same]
      exact ⟨⟨rfl, hs⟩, hr.fr hF2 (fun q hqq hm => hm1 q hqq (by simpa using hm)), fun q hqq => List.mem_append.2 (.inr (by simpa using hqq))⟩
    · rw [updM_other (by omega)]
      have hxd' : (x : Int) ∈ dn := by
        rcases List.mem_append.1 hxd with e1 | e1
        · exact e1
        · simp at e1; omega
      obtain ⟨a1, a2, a3⟩ := h.row x hx hxd'
      exact ⟨a1, (a2.fr hF (by simp)).fr hF2 (fun q hqq hm => h.nm (by have := a3 q hqq; rw [List.mem_singleton] at hm; rwa [hm] at this)), fun q hqq => List.mem_append.2 (.inl (a3 q hqq))⟩
  · have e : x ≠ id := fun e => hxd (by simp [e])
    rw [updM_other (by omega)]
    exact h.old x hx (fun hm => hxd (by simp [hm]))
  · have hin : ∀ y : Nat, y ≠ id → (y : Int) ∈ dn ++ [(id : Int)] → (y : Int) ∈ dn := fun y hy hm => by
      rcases List.mem_append.1 hm with e1 | e1
      · exact e1
      · simp at e1; omega
    by_cases ex : x = id
    · by_cases ey : y = id
      · rw [ex, ey]
      · subst ex
        rw [updM_same] at hxq
        rw [updM_other (by omega)] at hyq
        have h1 := hq q hxq
        have h2 := h.lt q ((h.row y hy (hin y ey hyd)).2.2 q hyq)
        omega
    · rw [updM_other (by omega)] at hxq
      by_cases ey : y = id
      · subst ey
        rw [updM_same] at hyq
        have h1 := hq q hyq
        have h2 := h.lt q ((h.row x hx (hin x ex hxd)).2.2 q hxq)
        omega
      · rw [updM_other (by omega)] at hyq
        exact h.inj x y q hx hy (hin x ex hxd) (hin y ey hyd) hxq hyq
/-- All lists are copied. -/
theorem CI.all (h : CI w B mc iv iv' f n dn lc) {w0 : World} {mb : Nat} {lb : List Nat} (h0 : IncI w0 mb iv f n lb) (hall : ∀ x, (Lit.int .u64 x).wf = true → (iv x).isSome = true → x ∈ dn) : IncI w mc iv' f n lc := by
  have hno : ∀ id : Nat, id < U64 → (id : Int) ∉ dn → iv' id = none ∧ f id = [] := fun id hid hd => by
    have h1 : (iv id).isSome = false := by
      cases hs : (iv id).isSome with
      | false => rfl
      | true => exact absurd (hall id (wf_u64 hid) hs) hd
    have h2 := h.old id hid hd
    refine ⟨by rw [h2]; simpa using h1, ?_⟩
    by_cases e : f id = []
    · exact e
    · have := (h0.row id hid).1.2 e
      rw [h1] at this; cases this
  refine ⟨h.im, h.nm, h.lt, fun id hid => ?_, fun id id' q hid hid' h1 h2 => ?_⟩
  · by_cases hd : (id : Int) ∈ dn
    · obtain ⟨a1, a2, a3⟩ := h.row id hid hd
      exact ⟨⟨fun _ => (h0.row id hid).1.1 a1.2, fun _ => a1.1⟩, a2, a3⟩
    · obtain ⟨a1, a2⟩ := hno id hid hd
      rw [a1, a2]
      exact ⟨by simp, RowI.nil _, fun q e => by cases e⟩
  · by_cases hd : (id : Int) ∈ dn
    · by_cases hd' : (id' : Int) ∈ dn
      · exact h.inj id id' q hid hid' hd hd' h1 h2
      · rw [(hno id' hid' hd').1] at h2; cases h2
    · rw [(hno id hid hd).1] at h1; cases h1
end
theorem Blk.frc {S : List Nat} {w w' : World} {b : Nat} {t : TypeId} {l : List Value} (h : Blk w b t l) (hf : Fr S w w') (hn : b ∉ S) : Blk w' b t l := hf.blk h hn
theorem Blk.fr0c {w w' : World} {b : Nat} {t : TypeId} {l : List Value} (h : Blk w b t l) (hf : Fr [] w w') : Blk w' b t l := hf.blk h (by simp)
section
variable {w w' : World} {ps : Nat} {s : Sm} {K : List Nat}
theorem st_copy (h : StoreAt w ps s K) : Calls Tryz.prog 17 #[sptr ps] w fun e w' => ∃ pc, e = .returned (sptr pc) ∧ ∃ K', StoreAt w' pc s K' ∧ Fr [] w w' ∧ ∀ q ∈ K', w.heap.size ≤ q := by
  have HV := Lib.hid (st_valid h)
  obtain ⟨pa, pt, mb, n, vl, la, lT, lb, c, hB, rfl, c0, c1, c2, c3, c4, c5, c6⟩ := h.open
  have HB := Lib.hid hB
  have HLT := Lib.hid hB.lt
  have hnE := hB.nE
  have hE := hB.ok.leE
  obtain ⟨iv, hI⟩ := hB.inc
  have HI := Lib.hid hI
  have HC1 := Lib.hid (fun (w' : World) (hf : Fr [] w w') => arena_copy (hB.ar.fr hf (by simp)))
  have HC2 := Lib.hid (fun (w' : World) (hf : Fr [] w w') => tab_copy (hB.tb.fr hf (by simp)))
  have HC3 := Lib.hid (fun (w' : World) (hf : Fr [] w w') => clone_live (hB.lv.fr0 hf) (by simp; omega))
  have HC4 := Lib.hid (fun (w' : World) (hf : Fr [] w w') => smap_clone (hI.fr hf (by simp) (by simp)).im)
  have hps := hB.hd.lt
  obtain ⟨av, cv, rfl⟩ : ∃ a cap, vl = .slice a n cap := by simpa using hB.lv.slice
  clear h hB hI
  go_enter Tryz.func17, Tryz.ntmps17
  go_wp2_with fail
  refine HV.out.mono ?_
  rintro _ w ⟨rfl, rfl⟩
  have hne : ps ≠ w.heap.size := by omega
  have hFa : Fr [] w (w.alloc (.cells #[.int .i64 s.V, .int .i64 s.E, .int .u64 s.last, ptr pa, ptr pt, .slice av n cv, .map (some mb)] 73)) := (Fr.refl [] w).alloc _
  have hB0 : Blk (w.alloc (.cells #[.int .i64 s.V, .int .i64 s.E, .int .u64 s.last, ptr pa, ptr pt, .slice av n cv, .map (some mb)] 73)) w.heap.size 73 [.int .i64 s.V, .int .i64 s.E, .int .u64 s.last, ptr pa, ptr pt, .slice av n cv, .map (some mb)] := Blk.new w _ _
  have hs0 : (w.alloc (.cells #[.int .i64 s.V, .int .i64 s.E, .int .u64 s.last, ptr pa, ptr pt, .slice av n cv, .map (some mb)] 73)).heap.size = w.heap.size + 1 := by simp
  go_wp2_with fail
  refine (HC1.out _ hFa).mono ?_
  rintro _ w2 ⟨pa', rfl, la', hA2, hF2, hl2⟩
  have hb2 := hF2.blk hB0 (by simp)
  have d2 := hb2.cell 3
  have z2 := hb2.frozen 3
  simp only [List.getElem?_cons_zero, List.getElem?_cons_succ] at d2
  have e4 := (hFa.trans' hF2).cell c4 (by simp)
  have hs2 := hF2.size
  have hl2' : ∀ q ∈ la', w.heap.size + 1 ≤ q := fun q hq => by have := hl2 q hq; omega
  have HF2 := Lib.hid (And.intro (hFa.trans' hF2) (And.intro hb2 (And.intro hA2 hl2')))
  clear hFa hB0 hF2 hb2 hA2 hl2 hl2' HC1 c0 c1 c2 c3
  go_wp2_with fail
  have hF3 : Fr [] w (w2.setCell ⟨w.heap.size, 3, none⟩ (ptr pa')) := HF2.out.1.setCell _ _ (.inr (Nat.le_refl _))
  have hb3 := HF2.out.2.1.set 3 (ptr pa')
  have hA3 := HF2.out.2.2.1.fr ((Fr.refl [w.heap.size] w2).setCell ⟨w.heap.size, 3, none⟩ (ptr pa') (.inl (by simp))) (fun q hq hm => by have := HF2.out.2.2.2 q hq; rw [List.mem_singleton] at hm; omega)
  have hs3 : (w2.setCell ⟨w.heap.size, 3, none⟩ (ptr pa')).heap.size = w2.heap.size := by simp
  simp only [List.set_cons_zero, List.set_cons_succ] at hb3
  have hl2 := HF2.out.2.2.2
  clear d2 z2 e4 HF2
  generalize w2.setCell ⟨w.heap.size, 3, none⟩ (ptr pa') = w3 at *
  have HF3 := Lib.hid (And.intro hF3 (And.intro hb3 (And.intro hA3 hl2)))
  have HLA := Lib.hid hA3.lt
  clear hb3 hA3 hl2
  refine (HC2.out _ hF3).mono ?_
  rintro _ w4 ⟨pt', rfl, lT', hT4, hF4, hl4⟩
  have hb4 := hF4.blk HF3.out.2.1 (by simp)
  have hA4 := HF3.out.2.2.1.fr hF4 (by simp)
  have d2 := hb4.cell 4
  have z2 := hb4.frozen 4
  simp only [List.getElem?_cons_zero, List.getElem?_cons_succ] at d2
  have e5 := (hF3.trans' hF4).cell c5 (by simp)
  have hs4 := hF4.size
  have HF4 := Lib.hid (And.intro (hF3.trans' hF4) (And.intro hb4 (And.intro hA4 (And.intro HF3.out.2.2.2 (And.intro hT4 (show ∀ q ∈ lT', w3.heap.size ≤ q from hl4))))))
  clear hF3 hF4 hb4 hA4 hT4 hl4 HC2 c4 HF3
  go_wp2_with fail
  have hF5 : Fr [] w (w4.setCell ⟨w.heap.size, 4, none⟩ (ptr pt')) := HF4.out.1.setCell _ _ (.inr (Nat.le_refl _))
  have hset : Fr [w.heap.size] w4 (w4.setCell ⟨w.heap.size, 4, none⟩ (ptr pt')) := (Fr.refl [w.heap.size] w4).setCell ⟨w.heap.size, 4, none⟩ (ptr pt') (.inl (by simp))
  have hb5 := HF4.out.2.1.set 4 (ptr pt')
  have hla3 := HF4.out.2.2.2.1
  have hA5 := HF4.out.2.2.1.fr hset (fun q hq hm => by have := hla3 q hq; rw [List.mem_singleton] at hm; omega)
  have hT5 := HF4.out.2.2.2.2.1.fr hset (fun q hq hm => by have := HF4.out.2.2.2.2.2 q hq; rw [List.mem_singleton] at hm; omega)
  have hs5 : (w4.setCell ⟨w.heap.size, 4, none⟩ (ptr pt')).heap.size = w4.heap.size := by simp
  have hl5 := HF4.out.2.2.2.2.2
  have hla4 := HF4.out.2.2.1.lt
  simp only [List.set_cons_zero, List.set_cons_succ] at hb5
  clear d2 z2 e5 HF4 hset
  generalize w4.setCell ⟨w.heap.size, 4, none⟩ (ptr pt') = w5 at *
  have HF5 := Lib.hid (And.intro hF5 (And.intro hb5 (And.intro hA5 (And.intro hla3 (And.intro hT5 hl5)))))
  have HLAT := Lib.hid (And.intro HLA.out hT5.lt)
  clear hb5 hA5 hla3 hT5 hl5 HLA
  refine (HC3.out _ hF5).mono ?_
  rintro _ w6 ⟨vl', rfl, hV6, hn6, hF6⟩
  obtain ⟨av', cv', rfl⟩ : ∃ a cap, vl' = .slice a n cap := by simpa using hV6.slice
  have hb6 := hF6.blk HF5.out.2.1 (by simp)
  have d2 := hb6.cell 5
  have z2 := hb6.frozen 5
  simp only [List.getElem?_cons_zero, List.getElem?_cons_succ] at d2
  have e6 := (hF5.trans' hF6).cell c6 (by simp)
  have hs6 := hF6.size
  have HF6 := Lib.hid (And.intro (hF5.trans' hF6) (And.intro hb6 (And.intro (HF5.out.2.2.1.fr hF6 (by simp)) (And.intro HF5.out.2.2.2.1 (And.intro (HF5.out.2.2.2.2.1.fr hF6 (by simp)) (And.intro HF5.out.2.2.2.2.2 (And.intro hV6 hn6)))))))
  clear hF5 hF6 hb6 hV6 hn6 HC3 c5 HF5
  go_wp2_with fail
  have hF7 : Fr [] w (w6.setCell ⟨w.heap.size, 5, none⟩ (.slice av' n cv')) := HF6.out.1.setCell _ _ (.inr (Nat.le_refl _))
  have hset : Fr [w.heap.size] w6 (w6.setCell ⟨w.heap.size, 5, none⟩ (.slice av' n cv')) := (Fr.refl [w.heap.size] w6).setCell ⟨w.heap.size, 5, none⟩ _ (.inl (by simp))
  have hb7 := HF6.out.2.1.set 5 (.slice av' n cv')
  have hA7 := HF6.out.2.2.1.fr hset (fun q hq hm => by have := HF6.out.2.2.2.1 q hq; rw [List.mem_singleton] at hm; omega)
  have hT7 := HF6.out.2.2.2.2.1.fr hset (fun q hq hm => by have := HF6.out.2.2.2.2.2.1 q hq; rw [List.mem_singleton] at hm; omega)
  have hV7 := HF6.out.2.2.2.2.2.2.1.fr hset (fun q hq hm => by have := HF6.out.2.2.2.2.2.2.2 q hq; rw [List.mem_singleton] at hm; omega)
  have hs7 : (w6.setCell ⟨w.heap.size, 5, none⟩ (.slice av' n cv')).heap.size = w6.heap.size := by simp
  simp only [List.set_cons_zero, List.set_cons_succ] at hb7
  have HL7 := Lib.hid (And.intro HF6.out.2.2.2.1 (And.intro HF6.out.2.2.2.2.2.1 HF6.out.2.2.2.2.2.2.2))
  have hlT6 := HF6.out.2.2.2.2.1.lt
  clear d2 z2 e6 HF6 hset
  generalize w6.setCell ⟨w.heap.size, 5, none⟩ (.slice av' n cv') = w7 at *
  have HF7 := Lib.hid (And.intro hF7 (And.intro hb7 (And.intro hA7 (And.intro hT7 hV7)))); clear hb7 hA7 hT7 hV7
  refine (HC4.out _ hF7).mono ?_
  rintro _ w8 ⟨rfl, hM8, hF8⟩
  rw [hs7] at hM8
  have hb8 := hF8.blk HF7.out.2.1 (by simp)
  have d2 := hb8.cell 6
  have z2 := hb8.frozen 6
  simp only [List.getElem?_cons_zero, List.getElem?_cons_succ] at d2
  have e7 := (hF7.trans' hF8).cell c6 (by simp)
  have hs8 := hF8.size
  have hml := hM8.lt
  have hvo : ∀ q, (Value.slice av' n cv').ownBlock = some q → w.heap.size + 1 ≤ q ∧ q < w6.heap.size := fun q hq => ⟨by have := HL7.out.2.2 q hq; omega, by have := HF7.out.2.2.2.2.lt hq; omega⟩
  have hlA := HF7.out.2.2.1.lt
  have hlT := HF7.out.2.2.2.1.lt
  have hset : Fr [w.heap.size] w8 (w8.setCell ⟨w.heap.size, 6, none⟩ (.map (some w6.heap.size))) := (Fr.refl _ w8).setCell ⟨w.heap.size, 6, none⟩ _ (.inl (by simp))
  have hF9 : Fr [] w (w8.setCell ⟨w.heap.size, 6, none⟩ (.map (some w6.heap.size))) := (hF7.trans' hF8).setCell _ _ (.inr (Nat.le_refl _))
  have hb9 := hb8.set 6 (.map (some w6.heap.size))
  simp only [List.set_cons_zero, List.set_cons_succ] at hb9
  have hn9 : ∀ q, w.heap.size + 1 ≤ q → q ∉ [w.heap.size] := fun q hq hm => by rw [List.mem_singleton] at hm; omega
  have hA9 := (HF7.out.2.2.1.fr hF8 (by simp)).fr hset (fun q hq => hn9 q (HL7.out.1 q hq))
  have hT9 := (HF7.out.2.2.2.1.fr hF8 (by simp)).fr hset (fun q hq => hn9 q (by have := HL7.out.2.1 q hq; omega))
  have hV9 := (HF7.out.2.2.2.2.fr0 hF8).fr hset (fun q hq => hn9 q (hvo q hq).1)
  have hM9 := hM8.same (hset.keep _ hml (hn9 _ (by omega)))
  have HIM := Lib.hid (HI.out.fr hF9 (by simp) (by simp))
  have hc6 := hb9.cell 6
  simp only [List.getElem?_cons_zero, List.getElem?_cons_succ] at hc6
  have hs9 : (w8.setCell ⟨w.heap.size, 6, none⟩ (.map (some w6.heap.size))).heap.size = w8.heap.size := by simp
  have H9 := Lib.hid (And.intro hF9 (And.intro hb9 (And.intro hA9 (And.intro hT9 (And.intro hV9 hM9)))))
  have HVO := Lib.hid (And.intro hvo (And.intro (fun q (hq : q ∈ la') => And.intro (HL7.out.1 q hq) (show q < w6.heap.size by have := hlA q hq; omega)) (fun q (hq : q ∈ lT') => And.intro (show w.heap.size + 1 ≤ q by have := HL7.out.2.1 q hq; omega) (And.intro (show w3.heap.size ≤ q from HL7.out.2.1 q hq) (show q < w6.heap.size by have := hlT q hq; omega)))))
  clear hF7 hF8 hb8 hM8 HC4 HF7 hset hF9 hb9 hn9 hA9 hT9 hV9 hM9 hvo hlA hlT hml c6
  go_wp2_with (first | (at_range; refine wpList_irange rfl _ rfl HIM.out.im Tryz.underlying22 Tryz.underlying71 rfl ?_; intro w10 cnt0 hI0 hc0 hF0 hs0) | fail)
  go_frame
  generalize w8.setCell ⟨w.heap.size, 6, none⟩ (.map (some w6.heap.size)) = w9 at *
  clear hs9
  have hm6 := H9.out.2.2.2.2.2.lt
  have HI0 := Lib.hid (And.intro hI0 (And.intro hF0 hs0))
  have hs90 := hF0.size
  clear hI0 hF0 hs0
  have hnmm : s.M.L.length < maxLen := by have := HB.out.ok.md.len; unfold maxLen; omega
  obtain ⟨nm, hnm⟩ : ∃ nm, nm = s.M.L.length := ⟨_, rfl⟩
  rw [← hnm] at H9 HI0 HIM hnmm HI
  have HNM := Lib.hid hnm
  clear hnm hc0 d2 z2 e7 hc6
  have hcl : ∀ id, (incL s.L id).length ≤ 16384 := fun id => by
    have h1 := incL_len s.L id
    have h2 := Sm.len_used HB.out.ok
    have h3 := HB.out.ok.ar.hb; have h4 := HB.out.ok.sl
    unfold Ar.used at h2
    omega
  have HCL := Lib.hid (And.intro hcl hnmm); clear hcl hnmm
  have hmbw : mb < w.heap.size := HLT.out mb (by simp [stK])
  have hs10 := HI0.out.2.2
  have hrbm : w9.heap.size ≠ mb := by have := HIM.out.im.lt; omega
  go_loopw [] (fun wr => ∃ (dn : List Int) (cnt : Nat) (iv' : Int → Option Value) (lc : List Nat), Hid (IRange Tryz.prog 22 .u64 okS wr mb w9.heap.size iv nm dn cnt ∧ CI wr w10.heap.size w6.heap.size iv iv' (incL s.L) nm dn lc ∧ Fr [w6.heap.size, w9.heap.size] w10 wr)) (fun wr => wr.rangeLeft mb w9.heap.size)
  case atStart => exact ⟨[], cnt0, iv, [], Lib.hid ⟨HI0.out.1, (CI.start (H9.out.2.2.2.2.2)).fr HI0.out.2.1 (by simp) (by simp), Fr.refl _ _⟩⟩
  case round =>
    obtain ⟨dn, cnt, iv', lc, HR⟩ := hrel
    rename World => wr
    have hF10 : Fr [] w wr := (H9.out.1.trans' HI0.out.2.1).trans HR.out.2.2 (fun q hq => .inr (by simp at hq; omega))
    have HFW := Lib.hid hF10
    have hsr := HR.out.2.2.size
    clear hF10
    go_wp2_with (first | (at_next; refine wpList_inext rfl _ rfl Tryz.underlying22 rfl HR.out.1 ?_ ?_) | fail)
    · intro hall
      have HA := Lib.hid hall; clear hall
      go_wp2_with fail
      go_ret
      have hII := HR.out.2.1.all (HI.out) HA.out
      have hF1 : Fr [w6.heap.size, w9.heap.size] w9 wr := (HI0.out.2.1.mono (by simp)).trans' HR.out.2.2
      have hno : ∀ q, q < w6.heap.size → q ∉ [w6.heap.size, w9.heap.size] := fun q hq hm => by simp at hm; omega
      have hge := HR.out.2.1.ge
      refine ⟨_, rfl, _, ⟨pa', pt', w6.heap.size, n, .slice av' n cv', la', lT', lc, fun x => if x = w.heap.size then 0 else if x = w6.heap.size then 1 else if w10.heap.size ≤ x then 5 else if x ∈ la' then 2 else if x ∈ lT' then 3 else 4, ⟨hF1.blk H9.out.2.1 (hno _ (by omega)), H9.out.2.2.1.fr hF1 (fun q hq => hno q (HVO.out.2.1 q hq).2), H9.out.2.2.2.1.fr hF1 (fun q hq => hno q (HVO.out.2.2 q hq).2.2), H9.out.2.2.2.2.1.fr hF1 (fun q hq => hno q (HVO.out.1 q hq).2), ⟨iv', by rw [← HNM.out]; exact hII⟩, HB.out.sn, hnE, HB.out.ok, ?_⟩, rfl⟩, HFW.out, ?_⟩
      · have h1 := HVO.out.1
        have h2 := HVO.out.2.1
        have h3 := HVO.out.2.2
        have hL := HLAT.out
        refine ⟨if_pos rfl, ?_, fun q hq => ?_, fun q hq => ?_, fun q hq => ?_, fun q hq => ?_⟩
        · rw [if_neg (by omega), if_pos rfl]
        · have := h2 q hq
          rw [if_neg (by omega), if_neg (by omega), if_neg (by omega), if_pos hq]
        · have := h3 q hq
          have hn : q ∉ la' := fun hm => by have := hL.1 q hm; omega
          rw [if_neg (by omega), if_neg (by omega), if_neg (by omega), if_neg hn, if_pos hq]
        · have := h1 q hq
          have h5 := HL7.out.2.2 q hq
          have hn : q ∉ la' := fun hm => by have := hL.1 q hm; omega
          have hn2 : q ∉ lT' := fun hm => by have := hL.2 q hm; omega
          rw [if_neg (by omega), if_neg (by omega), if_neg (by omega), if_neg hn, if_neg hn2]
        · have := hge q hq
          rw [if_neg (by omega), if_neg (by omega), if_pos this]
      · intro q hq
        simp only [stK, List.mem_cons, List.mem_append, Option.mem_toList] at hq
        rcases hq with rfl | rfl | ((hq | hq) | hq) | hq
        · exact Nat.le_refl _
        · omega
        · have := (HVO.out.2.1 q hq).1; omega
        · have := (HVO.out.2.2 q hq).1; omega
        · have := (HVO.out.1 q hq).1; omega
        · have := hge q hq; omega
    · intro x cv0 w1 cnt1 hwx hm hnd hI1 hlt1 hF1 hs1 hen
      obtain ⟨id, rfl, hid⟩ := u64_of_wf hwx
      have hFw1 : Fr [] w w1 := HFW.out.trans hF1 (fun q hq => .inr (by rw [List.mem_singleton] at hq; omega))
      have hrow := ((HI.out.fr hFw1 (by simp) (by simp)).row id hid).2.1
      rw [hm] at hrow
      obtain ⟨ac, cc, ec⟩ := hrow.slice
      simp only [Option.getD_some] at ec hrow
      subst ec
      have hCL := clone_ints (hrow.fr0 ((Fr.refl [] w1).drew)) (HCL.out.1 id)
      have hCI := HR.out.2.1.fr hF1 (by simp; omega) (fun q hq hm => by have := HR.out.2.1.ge q hq; rw [List.mem_singleton] at hm; omega)
      have HPU := Lib.hid (show ∀ (w5 : World) (v5 : Value), Fr [] w1 w5 → RowI w5 v5 (incL s.L id) → ∃ w6', (Instr.mapUpdate 71 (.map (some w6.heap.size)) (.int .u64 id) v5).run Tryz.prog w5 = .ok () w6' ∧ IMap Tryz.prog 22 .u64 okS w6' w6.heap.size (updM iv' id (some v5)) (if (iv' id).isSome = true then nm else nm + 1) ∧ Fr [w6.heap.size] w5 w6' from fun w5 v5 hf hr => by
        obtain ⟨a5, c5, rfl⟩ := hr.slice
        exact (hCI.im.same (hf.keep _ hCI.im.lt (by simp))).put Tryz.underlying22 Tryz.underlying71 HCL.out.2 (wf_u64 hid) rfl)
      have hb1 := (((H9.out.2.1.fr0c HI0.out.2.1).frc HR.out.2.2 (by simp; omega)).frc hF1 (by simp; omega)).cell 6
      simp only [List.getElem?_cons_zero, List.getElem?_cons_succ] at hb1
      have HK := Lib.hid (fun (w' : World) (S : List Nat) (hf : Fr S w1 w') (hs : w.heap.size ∉ S) => hf.cell hb1 hs)
      have HNC := Lib.hid (show w.heap.size ∉ [w6.heap.size] by simp; omega)
      have HCLn := Lib.hid hCL
      have HX := Lib.hid (And.intro hCI (And.intro hI1 (And.intro hF1 (And.intro hnd hm))))
      clear hCL hCI hrow hI1 hF1 hnd hm hFw1 hwx
      go_wp2_with fail
      go_region_held3 (fun w' => w'.cell? ⟨w.heap.size, 6, none⟩ = some (.map (some w6.heap.size)))
        (first
          | with_reducible exact HK.out _ _ hF16 HNC.out
          | with_reducible exact HK.out _ _ hF15 (by simp)
          | with_reducible exact HK.out _ _ ((Fr.refl [] w1).drew) (by simp))
        (first
          | (go_at_call 63; with_reducible refine Calls.mono HCLn.out ?_; rintro r w5' ⟨v5, rfl, hr5, hn5, hF5⟩
             have hF15 : Fr [] w1 w5' := ((Fr.refl [] w1).drew).trans' hF5
             obtain ⟨w6', hrun6, hM6, hG6⟩ := HPU.out w5' v5 hF15 hr5
             have hF16 : Fr [w6.heap.size] w1 w6' := (hF15.mono (by simp)).trans' hG6))
      all_goals
        go_wp2_with fail
        go_roundw
        case rel =>
          have hI6 := HX.out.2.1.fr hF16 (by simp; omega) (by simp; omega)
          refine ⟨dn ++ [(id : Int)], cnt1, _, _, Lib.hid ⟨hI6, HX.out.1.put hid (by rw [HX.out.2.2.2.2]; rfl) HX.out.2.2.2.1 hr5 hn5 (by omega) hF15 hM6 hG6, (HR.out.2.2.trans HX.out.2.2.1 (fun q hq => .inl (by rw [List.mem_singleton] at hq; simp [hq]))).trans hF16 (fun q hq => .inl (by rw [List.mem_singleton] at hq; simp [hq]))⟩⟩
        case measure => rw [(HX.out.2.1.fr hF16 (by simp; omega) (by simp; omega)).left_eq, HR.out.1.left_eq]; omega
end
end Go.Proofs.YtbegdgnhpklceaaGreat

/- store laws: a store and the document's, both nil or in the same state. -/
namespace Go.Proofs.YtbegdgnhpklceaaGreat
open Go.RowKit
set_option maxRecDepth 10000
set_option maxHeartbeats 1600000

def PS (W wr : World) (qt qr : Option Addr) (k : Nat) (Z : List Nat) : Prop :=
  Fr [] W wr ∧ (∀ z ∈ Z, W.heap.size ≤ z ∧ z < wr.heap.size) ∧ ((qt = none ∧ qr = none) ∨ ∃ ps pr s n K, qt = some ⟨ps, 0, none⟩ ∧ qr = some ⟨pr, 0, none⟩ ∧ RSt wr pr s n K ∧ SG W wr ps s (K ++ Z) ∧ (∀ q ∈ K, q ∉ Z) ∧ n ≤ k ∧ s.last ≤ 9223372036854775807 + k)
section
variable {W wr w' : World} {qt qr : Option Addr} {k : Nat} {Z Y : List Nat}
theorem PS.fr (h : PS W wr qt qr k Z) : Fr [] W wr := h.1
theorem PS.go (h : PS W wr qt qr k Z) (hf : Fr [] wr w') (hy : ∀ y ∈ Y, y ∈ Z ∨ (wr.heap.size ≤ y ∧ y < w'.heap.size)) : PS W w' qt qr k Y := by
  obtain ⟨h1, h2, h3⟩ := h
  have hs := hf.size
  have hs1 := h1.size
  refine ⟨h1.trans' hf, fun y hy' => ?_, ?_⟩
  · rcases hy y hy' with e | e
    · have := h2 y e; omega
    · omega
  · rcases h3 with h3 | ⟨ps, pr, s, n, K, e1, e2, h4, h5, h6, h7⟩
    · exact .inl h3
    · refine .inr ⟨ps, pr, s, n, K, e1, e2, h4.fr0 hf, h5.go hf (by simp) (fun y hy' => ?_), fun q hq hm => ?_, h7⟩
      · rcases List.mem_append.1 hy' with e | e
        · exact .inl (List.mem_append.2 (.inl e))
        · exact (hy y e).imp (fun e => List.mem_append.2 (.inr e)) id
      · rcases hy q hm with e | e
        · exact h6 q hq e
        · have := h4.lt q hq; omega
theorem PS.go0 (h : PS W wr qt qr k Z) (hf : Fr [] wr w') : PS W w' qt qr k Z := h.go hf (fun _ hy => .inl hy)
theorem PS.alloc (h : PS W wr qt qr k Z) (o : Obj) : PS W (wr.alloc o) qt qr k (wr.heap.size :: Z) := h.go ((Fr.refl [] wr).alloc o) (fun y hy => (List.mem_cons.1 hy).elim (fun e => .inr ⟨by omega, by simp; omega⟩) .inl)
theorem PS.mono (h : PS W wr qt qr k Z) {m : Nat} (hm : k ≤ m) : PS W wr qt qr m Z := by
  obtain ⟨h1, h2, h3⟩ := h
  refine ⟨h1, h2, ?_⟩
  rcases h3 with h3 | ⟨ps, pr, s, n, K, e1, e2, h4, h5, h6, h7, h8⟩
  · exact .inl h3
  · exact .inr ⟨ps, pr, s, n, K, e1, e2, h4, h5, h6, by omega, by omega⟩
end

/-- What both show. -/
structure Shw (w : World) (qt qr : Option Addr) (slot : Int) (id : Nat) (x : Lv) (ok : Bool) (i : Nat) (isI : Bool) (j : Nat) (isJ : Bool) (li : List Nat) (len vt : Nat) (L : List Lv) (ids : List Nat) : Prop where
  get1 : ∀ w', Fr [] w w' → Calls Tryz.prog 19 #[.pointer qt, .int .i64 slot] w' fun e w'' => e = .returned (.tuple #[lvA x, .bool ok]) ∧ Fr [] w' w''
  get2 : ∀ w', Fr [] w w' → Calls Tryz.prog 20 #[.pointer qr, .int .i64 slot] w' fun e w'' => e = .returned (.tuple #[lvA x, .bool ok]) ∧ Fr [] w' w''
  ind1 : ∀ w', Fr [] w w' → Calls Tryz.prog 21 #[.pointer qt, .int .u64 id] w' fun e w'' => e = .returned (.tuple #[.int .i64 i, .bool isI]) ∧ Fr [] w' w''
  ind2 : ∀ w', Fr [] w w' → Calls Tryz.prog 22 #[.pointer qr, .int .u64 id] w' fun e w'' => e = .returned (.tuple #[.int .i64 i, .bool isI]) ∧ Fr [] w' w''
  id1 : ∀ w', Fr [] w w' → Calls Tryz.prog 23 #[.pointer qt, .int .i64 slot] w' fun e w'' => e = .returned (.tuple #[.int .u64 j, .bool isJ]) ∧ Fr [] w' w''
  id2 : ∀ w', Fr [] w w' → Calls Tryz.prog 24 #[.pointer qr, .int .i64 slot] w' fun e w'' => e = .returned (.tuple #[.int .u64 j, .bool isJ]) ∧ Fr [] w' w''
  inc1 : ∀ w', Fr [] w w' → Calls Tryz.prog 26 #[.pointer qt, .int .u64 id] w' fun e w'' => ∃ v, e = .returned v ∧ RowI w'' v li ∧ Fr [] w' w''
  inc2 : ∀ w', Fr [] w w' → Calls Tryz.prog 27 #[.pointer qr, .int .u64 id] w' fun e w'' => ∃ v, e = .returned v ∧ RowI w'' v li ∧ Fr [] w' w''
  len1 : ∀ w', Fr [] w w' → Calls Tryz.prog 28 #[.pointer qt] w' fun e w'' => e = .returned (.int .i64 len) ∧ Fr [] w' w''
  len2 : ∀ w', Fr [] w w' → Calls Tryz.prog 29 #[.pointer qr] w' fun e w'' => e = .returned (.int .i64 len) ∧ Fr [] w' w''
  vrt1 : ∀ w', Fr [] w w' → Calls Tryz.prog 30 #[.pointer qt] w' fun e w'' => e = .returned (.int .i64 vt) ∧ Fr [] w' w''
  vrt2 : ∀ w', Fr [] w w' → Calls Tryz.prog 31 #[.pointer qr] w' fun e w'' => e = .returned (.int .i64 vt) ∧ Fr [] w' w''
  lst1 : ∀ w', Fr [] w w' → Calls Tryz.prog 33 #[.pointer qt] w' fun e w'' => ∃ v, e = .returned v ∧ RowV w'' v L ∧ Fr [] w' w''
  lst2 : ∀ w', Fr [] w w' → Calls Tryz.prog 34 #[.pointer qr] w' fun e w'' => ∃ v, e = .returned v ∧ RowV w'' v L ∧ Fr [] w' w''
  ids1 : ∀ w', Fr [] w w' → Calls Tryz.prog 36 #[.pointer qt] w' fun e w'' => ∃ v, e = .returned v ∧ RowU w'' v ids ∧ Fr [] w' w''
  ids2 : ∀ w', Fr [] w w' → Calls Tryz.prog 37 #[.pointer qr] w' fun e w'' => ∃ v, e = .returned v ∧ RowU w'' v ids ∧ Fr [] w' w''
  li : li.length ≤ 65536
  lL : L.length ≤ 65536
  lids : ids.length ≤ 65536
theorem same_w0 {P : Program} {f : Nat} {args : Array Value} {w : World} {r : Value} (h : Calls P f args w fun e w' => e = .returned r ∧ w' = w) : Calls P f args w fun e w' => e = .returned r ∧ Fr [] w w' := h.mono (by rintro _ _ ⟨rfl, rfl⟩; exact ⟨rfl, Fr.refl _ _⟩)
theorem nilU (w : World) : RowU w nilS [] := ⟨rfl, .inl ⟨rfl, rfl⟩⟩
theorem shows {W wr : World} {qt qr : Option Addr} {k : Nat} {Z : List Nat} (h : PS W wr qt qr k Z) (slot : Int) (id : Nat) (hid : id < 18446744073709551616) :
    ∃ x ok i isI j isJ li len vt L ids, Shw wr qt qr slot id x ok i isI j isJ li len vt L ids := by
  obtain ⟨h1, h2, h3⟩ := h
  rcases h3 with ⟨rfl, rfl⟩ | ⟨ps, pr, s, n, K, rfl, rfl, h4, h5, h6, h7⟩
  · have hb : ∀ w', Bad w' (.pointer none) := fun _ => .inl rfl
    have hr : ∀ w', Bdr w' (.pointer none) := fun _ => rfl
    refine ⟨Lv.z, false, 0, false, 0, false, [], 0, 0, [], [], ?_, ?_, ?_, ?_, ?_, ?_, ?_, ?_, ?_, ?_, ?_, ?_, ?_, ?_, ?_, ?_, by simp, by simp, by simp⟩
    · exact fun w' _ => get_bad (hb w') slot
    · exact fun w' _ => get_rn (hr w') slot
    · exact fun w' _ => same_w0 (index_bad (hb w') id)
    · exact fun w' _ => same_w0 (index_rn (hr w') id)
    · exact fun w' _ => same_w0 (id_bad (hb w') slot)
    · exact fun w' _ => same_w0 (id_rn (hr w') slot)
    · exact fun w' _ => (incident_bad (hb w') id).mono (by rintro _ _ ⟨rfl, rfl⟩; exact ⟨_, rfl, RowI.nil _, Fr.refl _ _⟩)
    · exact fun w' _ => (incident_rn (hr w') id).mono (by rintro _ _ ⟨rfl, rfl⟩; exact ⟨_, rfl, RowI.nil _, Fr.refl _ _⟩)
    · exact fun w' _ => same_w0 (len_bad (hb w'))
    · exact fun w' _ => same_w0 (len_rn (hr w'))
    · exact fun w' _ => same_w0 (verts_bad (hb w'))
    · exact fun w' _ => same_w0 (verts_rn (hr w'))
    · exact fun w' _ => (list_bad (hb w')).mono (by rintro _ _ ⟨rfl, rfl⟩; exact ⟨_, rfl, RowV.nil _, Fr.refl _ _⟩)
    · exact fun w' _ => (list_rn (hr w')).mono (by rintro _ _ ⟨rfl, rfl⟩; exact ⟨_, rfl, RowV.nil _, Fr.refl _ _⟩)
    · exact fun w' _ => (ids_bad (hb w')).mono (by rintro _ _ ⟨rfl, rfl⟩; exact ⟨_, rfl, nilU _, Fr.refl _ _⟩)
    · exact fun w' _ => (ids_rn (hr w')).mono (by rintro _ _ ⟨rfl, rfl⟩; exact ⟨_, rfl, nilU _, Fr.refl _ _⟩)
  · obtain ⟨pa, pt, vL, vU, vC, vR, vT, vF, c, cl, hB, _⟩ := h4
    obtain ⟨Ks, hS, _⟩ := h5
    have hok := hB.ok
    refine ⟨s.got slot, s.has slot, (s.M.find id).getD 0, (s.M.find id).isSome, (s.M.at slot).getD 0, (s.M.at slot).isSome, incL s.L id, s.L.length, s.M.L.length, s.L, s.ids, ?_, ?_, ?_, ?_, ?_, ?_, ?_, ?_, ?_, ?_, ?_, ?_, ?_, ?_, ?_, ?_, ?_, ?_, ?_⟩
    · exact fun w' hf => st_get (hS.fr0 hf) slot
    · exact fun w' hf => rs_get (hB.fr0 hf) slot
    · exact fun w' hf => st_index (hS.fr0 hf) id hid
    · exact fun w' hf => same_w0 (rs_index (hB.fr0 hf) id)
    · exact fun w' hf => same_w0 (st_id (hS.fr0 hf) slot)
    · exact fun w' hf => same_w0 (rs_id (hB.fr0 hf) slot)
    · exact fun w' hf => (st_incident (hS.fr0 hf) id hid).mono (by rintro _ _ ⟨v, rfl, k1, _, k3⟩; exact ⟨_, rfl, k1, k3⟩)
    · exact fun w' hf => (rs_incident (hB.fr0 hf) id).mono (by rintro _ _ ⟨v, rfl, k1, _, k3⟩; exact ⟨_, rfl, k1, k3⟩)
    · exact fun w' hf => same_w0 (st_len (hS.fr0 hf))
    · exact fun w' hf => same_w0 (rs_len (hB.fr0 hf))
    · exact fun w' hf => same_w0 (st_verts (hS.fr0 hf))
    · exact fun w' hf => rs_verts (hB.fr0 hf)
    · exact fun w' hf => (st_list (hS.fr0 hf)).mono (by rintro _ _ ⟨v, rfl, k1, _, k3⟩; exact ⟨_, rfl, k1, k3⟩)
    · exact fun w' hf => (rs_list (hB.fr0 hf)).mono (by rintro _ _ ⟨v, rfl, k1, _, k3⟩; exact ⟨_, rfl, k1, k3⟩)
    · exact fun w' hf => (st_ids (hS.fr0 hf)).mono (by rintro _ _ ⟨v, rfl, k1, _, k3⟩; exact ⟨_, rfl, k1, k3⟩)
    · exact fun w' hf => (rs_ids (hB.fr0 hf)).mono (by rintro _ _ ⟨v, rfl, k1, _, k3⟩; exact ⟨_, rfl, k1, k3⟩)
    · have h8 := incL_len s.L id; have h9 := sm_len_le hok; omega
    · have h9 := sm_len_le hok; omega
    · rw [Sm.ids_len]; have h9 := md_len_le hok; omega

theorem agree_s {W wr : World} {qt qr : Option Addr} {k : Nat} {Z : List Nat} (h : PS W wr qt qr k Z) (slot : Int) (id : Nat) (hid : id < 18446744073709551616) :
    Calls Tryz.prog 7 #[.pointer qt, .pointer qr, .int .i64 slot, .int .u64 id] wr fun e w' => e = .returned (.bool true) ∧ Fr [] wr w' := by
  obtain ⟨x, ok, i, isI, j, isJ, li, len, vt, L, ids, hs⟩ := shows h slot id hid
  have H := Lib.hid hs; clear hs h
  go_enter Tryz.func7, Tryz.ntmps7
  go_wp2_with fail
  refine (H.out.get1 _ (Fr.refl _ _)).mono ?_
  rintro _ w1 ⟨rfl, hF1⟩
  have hx1 : Blk (w1.alloc (.cells #[.int .i64 x.slot, .int .u64 x.seq, .int .u64 x.u, .int .u64 x.v, .int .i64 x.wt, .int .i64 x.t, .int .i64 x.x] 36)) w1.heap.size 36 (lvC x) := Blk.new w1 (lvC x) 36
  have HF1 := Lib.hid (And.intro (hF1.trans' ((Fr.refl [] w1).alloc (.cells #[.int .i64 x.slot, .int .u64 x.seq, .int .u64 x.u, .int .u64 x.v, .int .i64 x.wt, .int .i64 x.t, .int .i64 x.x] 36))) hx1)
  clear hF1 hx1
  go_wp2_with fail
  refine (H.out.get2 _ HF1.out.1).mono ?_
  rintro _ w2 ⟨rfl, hF2⟩
  have hx2 := (HF1.out.2.fr1 hF2).fr1 ((Fr.refl [] w2).alloc (.cells #[.int .i64 x.slot, .int .u64 x.seq, .int .u64 x.u, .int .u64 x.v, .int .i64 x.wt, .int .i64 x.t, .int .i64 x.x] 36))
  have hy2 : Blk (w2.alloc (.cells #[.int .i64 x.slot, .int .u64 x.seq, .int .u64 x.u, .int .u64 x.v, .int .i64 x.wt, .int .i64 x.t, .int .i64 x.x] 36)) w2.heap.size 36 (lvC x) := Blk.new w2 (lvC x) 36
  have HF2 := Lib.hid (HF1.out.1.trans' (hF2.trans' ((Fr.refl [] w2).alloc (.cells #[.int .i64 x.slot, .int .u64 x.seq, .int .u64 x.u, .int .u64 x.v, .int .i64 x.wt, .int .i64 x.t, .int .i64 x.x] 36))))
  obtain ⟨x0, x1, x2, x3, x4, x5, x6⟩ := hx2.lvAt
  obtain ⟨y0, y1, y2, y3, y4, y5, y6⟩ := hy2.lvAt
  simp only [Nat.zero_add] at x0 x1 x2 x3 x4 x5 x6 y0 y1 y2 y3 y4 y5 y6
  have hee : lvEq x x = true := decide_eq_true rfl
  have hne : w1.heap.size ≠ w2.heap.size := by have := (HF1.out.2.fr1 hF2).lt; omega
  clear hF2 hx2 hy2
  go_wp2_with fail
  generalize w2.alloc (.cells #[.int .i64 x.slot, .int .u64 x.seq, .int .u64 x.u, .int .u64 x.v, .int .i64 x.wt, .int .i64 x.t, .int .i64 x.x] 36) = w3 at *
  clear x0 x1 x2 x3 x4 x5 x6 y0 y1 y2 y3 y4 y5 y6 hee hne HF1
  refine (H.out.ind1 _ HF2.out).mono ?_
  rintro _ w4 ⟨rfl, hF4⟩
  have HF4 := Lib.hid (HF2.out.trans' hF4); clear hF4 HF2
  go_wp2_with fail
  refine (H.out.ind2 _ HF4.out).mono ?_
  rintro _ w5 ⟨rfl, hF5⟩
  have HF5 := Lib.hid (HF4.out.trans' hF5); clear hF5 HF4
  go_wp2_with fail
  refine (H.out.id1 _ HF5.out).mono ?_
  rintro _ w6 ⟨rfl, hF6⟩
  have HF6 := Lib.hid (HF5.out.trans' hF6); clear hF6 HF5
  go_wp2_with fail
  refine (H.out.id2 _ HF6.out).mono ?_
  rintro _ w7 ⟨rfl, hF7⟩
  have HF7 := Lib.hid (HF6.out.trans' hF7); clear hF7 HF6
  go_wp2_with fail
  refine (H.out.inc1 _ HF7.out).mono ?_
  rintro _ w8 ⟨v8, rfl, hr8, hF8⟩
  have HF8 := Lib.hid (HF7.out.trans' hF8)
  have HR8 := Lib.hid hr8
  clear hF8 HF7 hr8
  go_wp2_with fail
  refine (H.out.inc2 _ HF8.out).mono ?_
  rintro _ w9 ⟨v9, rfl, hr9, hF9⟩
  have hsm := sameInts_w (HR8.out.fr0 hF9) hr9 H.out.li H.out.li
  rw [decide_eq_true (rfl : li = li)] at hsm
  have HSm := Lib.hid hsm
  have HF9 := Lib.hid (HF8.out.trans' hF9)
  clear hsm hF9 hr9 HF8 HR8
  go_wp2_with fail
  refine HSm.out.mono ?_
  rintro _ w10 ⟨rfl, hF10⟩
  have HF10 := Lib.hid (HF9.out.trans' hF10)
  clear hF10 HF9 HSm
  go_wp2_with fail
  refine (H.out.len1 _ HF10.out).mono ?_
  rintro _ w11 ⟨rfl, hF11⟩
  have HF11 := Lib.hid (HF10.out.trans' hF11); clear hF11 HF10
  go_wp2_with fail
  refine (H.out.len2 _ HF11.out).mono ?_
  rintro _ w12 ⟨rfl, hF12⟩
  have HF12 := Lib.hid (HF11.out.trans' hF12); clear hF12 HF11
  go_wp2_with fail
  refine (H.out.vrt1 _ HF12.out).mono ?_
  rintro _ w13 ⟨rfl, hF13⟩
  have HF13 := Lib.hid (HF12.out.trans' hF13); clear hF13 HF12
  go_wp2_with fail
  refine (H.out.vrt2 _ HF13.out).mono ?_
  rintro _ w14 ⟨rfl, hF14⟩
  have HF14 := Lib.hid (HF13.out.trans' hF14); clear hF14 HF13
  go_wp2_with fail
  refine (H.out.lst1 _ HF14.out).mono ?_
  rintro _ w15 ⟨v15, rfl, hr15, hF15⟩
  have HF15 := Lib.hid (HF14.out.trans' hF15)
  have HR15 := Lib.hid hr15
  clear hF15 HF14 hr15
  go_wp2_with fail
  refine (H.out.lst2 _ HF15.out).mono ?_
  rintro _ w16 ⟨v16, rfl, hr16, hF16⟩
  have hsm := same_w (HR15.out.fr0 hF16) hr16 H.out.lL H.out.lL
  rw [decide_eq_true (rfl : L = L)] at hsm
  have HSm := Lib.hid hsm
  have HF16 := Lib.hid (HF15.out.trans' hF16)
  clear hsm hF16 hr16 HF15 HR15
  go_wp2_with fail
  refine HSm.out.mono ?_
  rintro _ w17 ⟨rfl, hF17⟩
  have HF17 := Lib.hid (HF16.out.trans' hF17)
  clear hF17 HF16 HSm
  go_wp2_with fail
  refine (H.out.ids1 _ HF17.out).mono ?_
  rintro _ w18 ⟨v18, rfl, hr18, hF18⟩
  have HF18 := Lib.hid (HF17.out.trans' hF18)
  have HR18 := Lib.hid hr18
  clear hF18 HF17 hr18
  go_wp2_with fail
  refine (H.out.ids2 _ HF18.out).mono ?_
  rintro _ w19 ⟨v19, rfl, hr19, hF19⟩
  have hsm := sameIDs_w (HR18.out.fr0 hF19) hr19 H.out.lids H.out.lids
  rw [decide_eq_true (rfl : ids = ids)] at hsm
  have HSm := Lib.hid hsm
  have HF19 := Lib.hid (HF18.out.trans' hF19)
  clear hsm hF19 hr19 HF18 HR18
  go_wp2_with fail
  refine HSm.out.mono ?_
  rintro _ w20 ⟨rfl, hF20⟩
  have HF20 := Lib.hid (HF19.out.trans' hF20)
  clear hF20 HF19 HSm
  go_wp2_with fail
  go_ret
  exact ⟨rfl, HF20.out⟩
end Go.Proofs.YtbegdgnhpklceaaGreat

namespace Go.Proofs.YtbegdgnhpklceaaGreat
open Go.RowKit
set_option maxRecDepth 10000
set_option maxHeartbeats 1600000

theorem st_from_bad (V E : Int) (L : Nat) (h : V < 0 ∨ 4096 < V ∨ E < 0 ∨ 16384 < E ∨ 9223372036854775807 < L) (w : World) :
    Calls Tryz.prog 8 #[.int .i64 V, .int .i64 E, .int .u64 L] w fun e w' => e = .returned (.tuple #[.pointer none, .int .i64 2]) ∧ w' = w := by
  by_cases h1 : V < 0
  · have d1 : decide (V < 0) = true := decide_eq_true h1
    go_enter Tryz.func8, Tryz.ntmps8
    go_wp2
    go_ret2
    exact ⟨rfl, rfl⟩
  · have d1 : decide (V < 0) = false := decide_eq_false h1
    by_cases h2 : 4096 < V
    · have d2 : decide (4096 < V) = true := decide_eq_true h2
      go_enter Tryz.func8, Tryz.ntmps8
      go_wp2
      go_ret2
      exact ⟨rfl, rfl⟩
    · have d2 : decide (4096 < V) = false := decide_eq_false h2
      by_cases h3 : E < 0
      · have d3 : decide (E < 0) = true := decide_eq_true h3
        go_enter Tryz.func8, Tryz.ntmps8
        go_wp2
        go_ret2
        exact ⟨rfl, rfl⟩
      · have d3 : decide (E < 0) = false := decide_eq_false h3
        by_cases h4 : 16384 < E
        · have d4 : decide (16384 < E) = true := decide_eq_true h4
          go_enter Tryz.func8, Tryz.ntmps8
          go_wp2
          go_ret2
          exact ⟨rfl, rfl⟩
        · have d4 : decide (16384 < E) = false := decide_eq_false h4
          have h5 : 9223372036854775807 < (L : Int) := by omega
          have d5 : decide (9223372036854775807 < (L : Int)) = true := decide_eq_true h5
          go_enter Tryz.func8, Tryz.ntmps8
          go_wp2
          go_ret2
          exact ⟨rfl, rfl⟩
theorem st_new_bad (V E : Int) (h : V < 0 ∨ 4096 < V ∨ E < 0 ∨ 16384 < E) (w : World) :
    Calls Tryz.prog 5 #[.int .i64 V, .int .i64 E] w fun e w' => e = .returned (.tuple #[.pointer none, .int .i64 2]) ∧ w' = w := by
  have HF := Lib.hid (st_from_bad V E 0 (by omega) w)
  clear h
  go_enter Tryz.func5, Tryz.ntmps5
  go_wp2_with fail
  refine HF.out.mono ?_
  rintro _ w1 ⟨rfl, rfl⟩
  go_wp2
  go_ret2
  exact ⟨rfl, rfl⟩

theorem Gu.rst {Z : List Nat} {w w' : World} (h : Gu Z w w') {pr : Nat} {s : Sm} {n : Nat} {K : List Nat} (hr : RSt w pr s n K) (ha : ∀ q ∈ K, q ∈ Z) : RSt w' pr s n K := by
  obtain ⟨X, h1, h2⟩ := h; exact hr.fr h1 (fun q hq => h2 q (ha q hq))
section
variable {W wr w1 w2 w3 : World} {ps pr : Nat} {s s' : Sm} {n n' k : Nat} {K K' Z Z2 : List Nat}
/-- The document's step. -/
theorem PS.doc (h : SG W w2 ps s' (K ++ Z2)) (hKZ : ∀ q ∈ K, q ∉ Z2) (h3 : RSt w3 pr s' n' K') (hF : Fr K w2 w3) (hq : ∀ q ∈ K', q ∈ K ∨ w2.heap.size ≤ q) (hn : n' ≤ k) (hl : s'.last ≤ 9223372036854775807 + k) :
    PS W w3 (some ⟨ps, 0, none⟩) (some ⟨pr, 0, none⟩) k Z2 ∧ Gu Z2 w2 w3 := by
  have hs3 := h.go hF (Y := K' ++ Z2) (fun x hx => .inl (List.mem_append.2 (.inl hx))) (fun y hy => by
    rcases List.mem_append.1 hy with e | e
    · rcases hq y e with e1 | e1
      · exact .inl (List.mem_append.2 (.inl e1))
      · exact .inr ⟨e1, h3.lt y e⟩
    · exact .inl (List.mem_append.2 (.inr e)))
  refine ⟨⟨hs3.fr, fun z hz => ⟨hs3.ge z (List.mem_append.2 (.inr hz)), hs3.lt z (List.mem_append.2 (.inr hz))⟩, .inr ⟨ps, pr, s', n', K', rfl, rfl, h3, hs3, fun q hq' hm => ?_, hn, hl⟩⟩, K, hF, fun z hz hm => hKZ z hm hz⟩
  rcases hq q hq' with e | e
  · exact hKZ q e hm
  · have := h.lt q (List.mem_append.2 (.inr hm)); omega
/-- Between the two steps. -/
theorem PS.mid (h : SG W w1 ps s' (K ++ Z)) (hKZ : ∀ q ∈ K, q ∉ Z) (hf : Fr [] w1 w2) (hz : ∀ z ∈ Z2, z ∈ Z ∨ (w1.heap.size ≤ z ∧ z < w2.heap.size)) : SG W w2 ps s' (K ++ Z2) ∧ ∀ q ∈ K, q ∉ Z2 := by
  refine ⟨h.go hf (by simp) (fun y hy => ?_), fun q hq hm => ?_⟩
  · rcases List.mem_append.1 hy with e | e
    · exact .inl (List.mem_append.2 (.inl e))
    · exact (hz y e).imp (fun e => List.mem_append.2 (.inr e)) id
  · rcases hz q hm with e | e
    · exact hKZ q hq e
    · have := h.lt q (List.mem_append.2 (.inl hq)); omega
end
section
variable {W wr : World} {qt qr : Option Addr} {k : Nat} {Z : List Nat}
theorem ins_s (h : PS W wr qt qr k Z) (hk : k < 4611686018427387904) (u v : Nat) (hu : u < 18446744073709551616) (hv : v < 18446744073709551616) (wt t x : Int) :
    Calls Tryz.prog 10 #[.pointer qt, recA u v wt t, .int .i64 x] wr fun e w1 => ∃ (y : Lv) (code : Nat), e = .returned (.tuple #[lvA y, .int .i64 code]) ∧ Gu Z wr w1 ∧
      ∀ w2, Fr [] w1 w2 → ∀ Z2, (∀ z ∈ Z2, z ∈ Z ∨ (w1.heap.size ≤ z ∧ z < w2.heap.size)) → Calls Tryz.prog 11 #[.pointer qr, recA u v wt t, .int .i64 x] w2 fun e w3 =>
        e = .returned (.tuple #[lvA y, .int .i64 code]) ∧ PS W w3 qt qr (k + 1) Z2 ∧ Gu Z2 w2 w3 := by
  have h0 := h
  obtain ⟨h1, h2, h3⟩ := h
  rcases h3 with ⟨rfl, rfl⟩ | ⟨ps, pr, s, n, K, rfl, rfl, h4, h5, h6, h7, h8⟩
  · refine (ins_bad (v := .pointer none) (.inl rfl) u v wt t x).mono ?_
    rintro _ w1 ⟨rfl, hF1⟩
    refine ⟨Lv.z, 1, rfl, Gu.of0 hF1, fun w2 hF2 Z2 hz => (ins_rn (v := .pointer none) rfl u v wt t x).mono ?_⟩
    rintro _ w3 ⟨rfl, hF3⟩
    exact ⟨rfl, (((h0.go0 hF1).go hF2 hz).go0 hF3).mono (Nat.le_succ _), Gu.of0 hF3⟩
  · refine (sg_ins h5 u v wt t x hu hv (by omega)).mono ?_
    rintro _ w1 ⟨rfl, hS1, hG1⟩
    refine ⟨s.insR u v wt t x, s.chk u v, rfl, hG1.mono (fun z hz => List.mem_append.2 (.inr hz)), fun w2 hF2 Z2 hz => ?_⟩
    have hR2 := (hG1.rst h4 (fun q hq => List.mem_append.2 (.inl hq))).fr0 hF2
    obtain ⟨hS2, hK2⟩ := PS.mid hS1 h6 hF2 hz
    obtain ⟨pa, pt, vL, vU, vC, vR, vT, vF, c, cl, hB, rfl⟩ := hR2
    by_cases hc : s.chk u v = 0
    · have e1 : s.insR u v wt t x = s.edge u v wt t x := if_pos hc
      have e2 : s.insS u v wt t x = s.ins u v wt t x := if_pos hc
      rw [e1, hc]
      rw [e2] at hS2
      refine (rs_ins_yes hB u v hu hv wt t x hc (by omega) (by omega)).mono ?_
      rintro _ w3 ⟨rfl, K', k1, k2, k3⟩
      obtain ⟨p1, p2⟩ := PS.doc hS2 hK2 k1 k2 k3 (show n + 1 ≤ k + 1 by omega) (show s.last + 1 ≤ 9223372036854775807 + (k + 1) by omega)
      exact ⟨rfl, p1, p2⟩
    · have e1 : s.insR u v wt t x = Lv.z := if_neg hc
      have e2 : s.insS u v wt t x = s := if_neg hc
      rw [e1]
      rw [e2] at hS2
      refine (rs_ins_no hB u v wt t x hc).mono ?_
      rintro _ w3 ⟨rfl, k2⟩
      obtain ⟨p1, p2⟩ := PS.doc hS2 hK2 ⟨pa, pt, vL, vU, vC, vR, vT, vF, c, cl, hB.fr0 k2, rfl⟩ (k2.mono (by simp)) (fun q hq => .inl hq) (show n ≤ k + 1 by omega) (show s.last ≤ 9223372036854775807 + (k + 1) by omega)
      exact ⟨rfl, p1, p2⟩
theorem rem_s (h : PS W wr qt qr k Z) (i : Int) :
    Calls Tryz.prog 13 #[.pointer qt, .int .i64 i] wr fun e w1 => ∃ (y : Lv) (code : Int), e = .returned (.tuple #[lvA y, .int .i64 code]) ∧ Gu Z wr w1 ∧
      ∀ w2, Fr [] w1 w2 → ∀ Z2, (∀ z ∈ Z2, z ∈ Z ∨ (w1.heap.size ≤ z ∧ z < w2.heap.size)) → Calls Tryz.prog 14 #[.pointer qr, .int .i64 i] w2 fun e w3 =>
        e = .returned (.tuple #[lvA y, .int .i64 code]) ∧ PS W w3 qt qr (k + 1) Z2 ∧ Gu Z2 w2 w3 := by
  have h0 := h
  obtain ⟨h1, h2, h3⟩ := h
  rcases h3 with ⟨rfl, rfl⟩ | ⟨ps, pr, s, n, K, rfl, rfl, h4, h5, h6, h7, h8⟩
  · refine (rem_bad (v := .pointer none) (.inl rfl) i).mono ?_
    rintro _ w1 ⟨rfl, hF1⟩
    refine ⟨Lv.z, 1, rfl, Gu.of0 hF1, fun w2 hF2 Z2 hz => (rem_rn (v := .pointer none) rfl i).mono ?_⟩
    rintro _ w3 ⟨rfl, hF3⟩
    exact ⟨rfl, (((h0.go0 hF1).go hF2 hz).go0 hF3).mono (Nat.le_succ _), Gu.of0 hF3⟩
  · refine (sg_rem h5 i).mono ?_
    rintro _ w1 ⟨rfl, hS1, hG1⟩
    refine ⟨s.got i, s.remC i, rfl, hG1.mono (fun z hz => List.mem_append.2 (.inr hz)), fun w2 hF2 Z2 hz => ?_⟩
    have hR2 := (hG1.rst h4 (fun q hq => List.mem_append.2 (.inl hq))).fr0 hF2
    obtain ⟨hS2, hK2⟩ := PS.mid hS1 h6 hF2 hz
    obtain ⟨pa, pt, vL, vU, vC, vR, vT, vF, c, cl, hB, rfl⟩ := hR2
    cases hh : s.has i with
    | true =>
      obtain ⟨hi0, hu⟩ := (Sm.has_iff hB.ok i).1 hh
      obtain ⟨m, rfl⟩ := Int.eq_ofNat_of_zero_le hi0
      simp only [Int.toNat_natCast] at hu
      have e0 : s.got m = liveAt s.L m := by unfold Sm.got; rw [if_pos (by omega), Int.toNat_natCast]
      have e1 : s.remC m = 0 := if_pos hh
      have e2 : s.remS m = s.rem m := if_pos hh
      rw [e0, e1]
      rw [e2] at hS2
      refine (rs_rem_yes hB m hu).mono ?_
      rintro _ w3 ⟨rfl, K', k1, k2, k3⟩
      obtain ⟨p1, p2⟩ := PS.doc hS2 hK2 k1 k2 k3 (show n ≤ k + 1 by omega) (show s.last ≤ 9223372036854775807 + (k + 1) by omega)
      exact ⟨rfl, p1, p2⟩
    | false =>
      have e2 : s.remS i = s := if_neg (by rw [hh]; simp)
      rw [e2] at hS2
      refine (rs_rem_no hB i hh).mono ?_
      rintro _ w3 ⟨rfl, k2⟩
      obtain ⟨p1, p2⟩ := PS.doc hS2 hK2 ⟨pa, pt, vL, vU, vC, vR, vT, vF, c, cl, hB.fr0 k2, rfl⟩ (k2.mono (by simp)) (fun q hq => .inl hq) (show n ≤ k + 1 by omega) (show s.last ≤ 9223372036854775807 + (k + 1) by omega)
      exact ⟨rfl, p1, p2⟩
theorem check_s (h : PS W wr qt qr k Z) (u v : Nat) (hu : u < 18446744073709551616) (hv : v < 18446744073709551616) (wt t : Int) :
    ∃ code : Nat, (∀ w', Fr [] wr w' → Calls Tryz.prog 15 #[.pointer qt, recA u v wt t] w' fun e w1 => e = .returned (.int .i64 code) ∧ Fr [] w' w1) ∧
      ∀ w', Fr [] wr w' → Calls Tryz.prog 16 #[.pointer qr, recA u v wt t] w' fun e w1 => e = .returned (.int .i64 code) ∧ Fr [] w' w1 := by
  obtain ⟨h1, h2, h3⟩ := h
  rcases h3 with ⟨rfl, rfl⟩ | ⟨ps, pr, s, n, K, rfl, rfl, h4, h5, h6, h7, h8⟩
  · exact ⟨1, fun w' _ => check_bad (v := .pointer none) (.inl rfl) u v wt t, fun w' _ => check_rn (v := .pointer none) rfl u v wt t⟩
  · obtain ⟨pa, pt, vL, vU, vC, vR, vT, vF, c, cl, hB, rfl⟩ := h4
    obtain ⟨Ks, hS, _⟩ := h5
    exact ⟨s.chk u v, fun w' hf => st_check (hS.fr0 hf) u v hu hv wt t, fun w' hf => rs_check (hB.fr0 hf) u v wt t⟩
theorem copy_s (h : PS W wr qt qr k Z) :
    Calls Tryz.prog 17 #[.pointer qt] wr fun e w1 => ∃ qt', e = .returned (.pointer qt') ∧ Fr [] wr w1 ∧
      ∀ w2, Fr [] w1 w2 → Calls Tryz.prog 18 #[.pointer qr] w2 fun e w3 => ∃ qr', e = .returned (.pointer qr') ∧ PS W w3 qt' qr' k Z ∧ Fr [] w2 w3 := by
  have h0 := h
  obtain ⟨h1, h2, h3⟩ := h
  rcases h3 with ⟨rfl, rfl⟩ | ⟨ps, pr, s, n, K, rfl, rfl, h4, h5, h6, h7, h8⟩
  · refine (copy_bad (w := wr) (v := .pointer none) (.inl rfl)).mono ?_
    rintro _ w1 ⟨rfl, rfl⟩
    refine ⟨none, rfl, Fr.refl _ _, fun w2 hF2 => (copy_rn (w := w2) (v := .pointer none) rfl).mono ?_⟩
    rintro _ w3 ⟨rfl, rfl⟩
    exact ⟨none, rfl, h0.go0 hF2, Fr.refl _ _⟩
  · obtain ⟨Ks, hS, hSW, hSK, hSZ⟩ := h5
    refine (st_copy hS).mono ?_
    rintro _ w1 ⟨pc, rfl, Kc, k1, k2, k3⟩
    refine ⟨_, rfl, k2, fun w2 hF2 => ?_⟩
    obtain ⟨pa, pt, vL, vU, vC, vR, vT, vF, c, cl, hB, rfl⟩ := h4
    refine (rs_copy (hB.fr0 (k2.trans' hF2))).mono ?_
    rintro _ w3 ⟨pr', K', rfl, m1, m2, m3⟩
    have s1 := k2.size; have s2 := hF2.size; have s3 := m2.size; have s0 := h1.size
    refine ⟨_, rfl, ⟨h1.trans' (k2.trans' (hF2.trans' m2)), fun z hz => ?_, .inr ⟨pc, pr', s, n, K', rfl, rfl, m1, ⟨Kc, (k1.fr0 hF2).fr0 m2, h1.trans' (k2.trans' (hF2.trans' m2)), fun q hq => Nat.le_trans s0 (k3 q hq), fun z hz => ?_⟩, fun q hq hm => ?_, h7, h8⟩⟩, m2⟩
    · have := h2 z hz; omega
    · rcases List.mem_append.1 hz with e | e
      · have := m3 z e
        refine ⟨by omega, m1.lt z e, fun hm => ?_⟩
        have := k1.lt z hm; omega
      · have := h2 z e
        refine ⟨this.1, by omega, fun hm => ?_⟩
        have := k3 z hm; omega
    · have h9 := m3 q hq; have := h2 q hm; omega
end
theorem from_s (W wr : World) (hW : Fr [] W wr) (V E : Int) (L : Nat) :
    Calls Tryz.prog 8 #[.int .i64 V, .int .i64 E, .int .u64 L] wr fun e w1 => ∃ (qt : Option Addr) (c : Int), e = .returned (.tuple #[.pointer qt, .int .i64 c]) ∧ Fr [] wr w1 ∧
      ∀ w2, Fr [] w1 w2 → Calls Tryz.prog 9 #[.int .i64 V, .int .i64 E, .int .u64 L] w2 fun e w3 => ∃ qr, e = .returned (.tuple #[.pointer qr, .int .i64 c]) ∧ (qt = none ↔ qr = none) ∧ PS W w3 qt qr 0 [] ∧ Fr [] w2 w3 := by
  by_cases hb : V < 0 ∨ 4096 < V ∨ E < 0 ∨ 16384 < E ∨ 9223372036854775807 < L
  · refine (st_from_bad V E L hb wr).mono ?_
    rintro _ w1 ⟨rfl, rfl⟩
    refine ⟨none, 2, rfl, Fr.refl _ _, fun w2 hF2 => (rs_from_bad V E L hb w2).mono ?_⟩
    rintro _ w3 ⟨rfl, rfl⟩
    exact ⟨none, rfl, Iff.rfl, ⟨hW.trans' hF2, by simp, .inl ⟨rfl, rfl⟩⟩, Fr.refl _ _⟩
  · obtain ⟨v, rfl⟩ := Int.eq_ofNat_of_zero_le (show 0 ≤ V by omega)
    obtain ⟨ee, rfl⟩ := Int.eq_ofNat_of_zero_le (show 0 ≤ E by omega)
    refine (st_from v ee L wr (by omega) (by omega) (by omega)).mono ?_
    rintro _ w1 ⟨ps, rfl, Ks, k1, k2, k3⟩
    refine ⟨_, 0, rfl, k2, fun w2 hF2 => (rs_from v ee L (by omega) (by omega) (by omega) w2).mono ?_⟩
    rintro _ w3 ⟨pr, K, rfl, m1, m2, m3⟩
    have s0 := hW.size; have s1 := k2.size; have s2 := hF2.size; have s3 := m2.size
    have hF := hW.trans' (k2.trans' (hF2.trans' m2))
    refine ⟨_, rfl, by simp, ⟨hF, by simp, .inr ⟨ps, pr, _, 0, K, rfl, rfl, m1, ⟨Ks, (k1.fr0 hF2).fr0 m2, hF, fun q hq => Nat.le_trans s0 (k3 q hq), fun z hz => ?_⟩, by simp, Nat.le_refl _, ?_⟩⟩, m2⟩
    · rw [List.append_nil] at hz
      have := m3 z hz
      exact ⟨by omega, m1.lt z hz, fun hm => by have := k1.lt z hm; omega⟩
    · show L ≤ _; omega
theorem new_s (W wr : World) (hW : Fr [] W wr) (V E : Int) :
    Calls Tryz.prog 5 #[.int .i64 V, .int .i64 E] wr fun e w1 => ∃ (qt : Option Addr) (c : Int), e = .returned (.tuple #[.pointer qt, .int .i64 c]) ∧ Fr [] wr w1 ∧
      ∀ w2, Fr [] w1 w2 → Calls Tryz.prog 6 #[.int .i64 V, .int .i64 E] w2 fun e w3 => ∃ qr, e = .returned (.tuple #[.pointer qr, .int .i64 c]) ∧ (qt = none ↔ qr = none) ∧ PS W w3 qt qr 0 [] ∧ Fr [] w2 w3 := by
  by_cases hb : V < 0 ∨ 4096 < V ∨ E < 0 ∨ 16384 < E
  · refine (st_new_bad V E hb wr).mono ?_
    rintro _ w1 ⟨rfl, rfl⟩
    refine ⟨none, 2, rfl, Fr.refl _ _, fun w2 hF2 => (rs_new_bad V E hb w2).mono ?_⟩
    rintro _ w3 ⟨rfl, rfl⟩
    exact ⟨none, rfl, Iff.rfl, ⟨hW.trans' hF2, by simp, .inl ⟨rfl, rfl⟩⟩, Fr.refl _ _⟩
  · obtain ⟨v, rfl⟩ := Int.eq_ofNat_of_zero_le (show 0 ≤ V by omega)
    obtain ⟨ee, rfl⟩ := Int.eq_ofNat_of_zero_le (show 0 ≤ E by omega)
    refine (st_new v ee wr (by omega) (by omega)).mono ?_
    rintro _ w1 ⟨ps, rfl, Ks, k1, k2, k3⟩
    refine ⟨_, 0, rfl, k2, fun w2 hF2 => (rs_new v ee (by omega) (by omega) w2).mono ?_⟩
    rintro _ w3 ⟨pr, K, rfl, m1, m2, m3⟩
    have s0 := hW.size; have s1 := k2.size; have s2 := hF2.size; have s3 := m2.size
    have hF := hW.trans' (k2.trans' (hF2.trans' m2))
    refine ⟨_, rfl, by simp, ⟨hF, by simp, .inr ⟨ps, pr, _, 0, K, rfl, rfl, m1, ⟨Ks, (k1.fr0 hF2).fr0 m2, hF, fun q hq => Nat.le_trans s0 (k3 q hq), fun z hz => ?_⟩, by simp, Nat.le_refl _, ?_⟩⟩, m2⟩
    · rw [List.append_nil] at hz
      have := m3 z hz
      exact ⟨by omega, m1.lt z hz, fun hm => by have := k1.lt z hm; omega⟩
    · show 0 ≤ _; omega
end Go.Proofs.YtbegdgnhpklceaaGreat
