/- lct: refresh. -/
import Derived.Test.YtgmnemndjjmgkaaGreatB8
import Derived.Deep.RegionHeld3
import Derived.StillTailTactics
import Derived.Shelf.SlicesE.Index
import Derived.Shelf.SlicesG.Delete
import Derived.Sort.OwnSortedInts
import Derived.Deep.QuietTactic
import Derived.BigQuiet
set_option linter.unusedSimpArgs false
set_option linter.unusedVariables false
/- store: Insert. -/
namespace Go.Proofs.YtgmnemndjjmgkaaGreat
open Go.RowKit
set_option maxRecDepth 10000
set_option maxHeartbeats 1600000
def liveLen (w : World) (ps : Nat) : Nat := match w.cell? ⟨ps, 5, none⟩ with
  | some (.slice _ m _) => m
  | _ => 0
theorem liveLen_eq {w : World} {ps m cap : Nat} {a : Option Addr} (h : w.cell? ⟨ps, 5, none⟩ = some (.slice a m cap)) : liveLen w ps = m := by unfold liveLen; rw [h]
theorem rowV_zero {L : List Lv} {n n' : Nat} (hs : ∀ e ∈ L, e.slot < n) (hn : n ≤ n') : (List.range (n' + 1)).map (liveAt L) = (List.range n').map (liveAt L) ++ [Lv.z] := by
 rw [List.range_succ, List.map_append, List.map_cons, List.map_nil, liveAt_none (fun e he => by have := hs e he; omega)]
theorem Blk.put7 {w : World} {b : Nat} {t : TypeId} {v0 v1 v2 v3 v4 v5 v6 : Value} (h : Blk w b t [v0, v1, v2, v3, v4, v5, v6]) (e : Lv) : Blk (put7 w b 0 e) b t (lvC e) :=
  ((((((h.set 0 (.int .i64 e.slot)).set 1 (.int .u64 e.seq)).set 2 (.int .u64 e.u)).set 3 (.int .u64 e.v)).set 4 (.int .i64 e.wt)).set 5 (.int .i64 e.t)).set 6 (.int .i64 e.x)
theorem zero_ints (w : World) : (zeroValue 94).run Tryz.prog w = .ok nilS w := by kernel_rfl
def InsS (w7 : World) (ps pt mb : Nat) (v7 : Value) (la lT lb : List Nat) (M : Md) (f : Nat → List Nat) (n : Nat) (wr : World) : Prop :=
  ∃ lT' lb' c', Cls c' ps mb v7 la lT' lb' ∧ TabM wr pt M lT' ∧ IncAt wr mb f n lb' ∧ Fr (mb :: (lT ++ lb)) w7 wr ∧ (∀ q ∈ lT', q ∈ lT ∨ w7.heap.size ≤ q) ∧ ∀ q ∈ lb', q ∈ lb ∨ w7.heap.size ≤ q
section
variable {w7 wr : World} {ps pt mb n : Nat} {v7 : Value} {la lT lb : List Nat} {M : Md} {f : Nat → List Nat}
theorem ins_put (hps : ps < w7.heap.size) (hla : ∀ b ∈ la, b < w7.heap.size) (hv7 : ∀ q, v7.ownBlock = some q → q < w7.heap.size) (h : InsS w7 ps pt mb v7 la lT lb M f n wr) {id : Nat} (hid : id < U64) :
    Calls Tryz.prog 156 #[ptr pt, .int .u64 id] wr fun e w' => ∃ r, e = .returned r ∧ InsS w7 ps pt mb v7 la lT lb (M.put id).M f n w' ∧ Fr (mb :: (lT ++ lb)) w7 w' := by
 obtain ⟨lT', lb', c', hc, hT, hI, hF, h5, h6⟩ := h
 refine (tab_put id hid hT).mono ?_
 rintro _ w' ⟨rfl, l', hT', hN1, hN2⟩
 have hlt := hT.lt
 have hlb := hI.ltb
 have hml := hI.ltm
 have hsz := hF.size
 have e1 := hN1.size
 have hF' : Fr (mb :: (lT ++ lb)) w7 w' := hF.trans hN1 (fun q hq => (h5 q hq).imp (fun e => by simp [e]) (fun e => e))
 refine ⟨_, rfl, ⟨l', lb', fun x => if x < wr.heap.size then c' x else 3, ⟨?_, ?_, ?_, ?_, ?_, ?_⟩, hT', ?_, hF', ?_, h6⟩, hF'⟩
 · rw [if_pos (by omega)]; exact hc.p
 · rw [if_pos hml]; exact hc.m
 · intro b hb; rw [if_pos (by have := hla b hb; omega)]; exact hc.a b hb
 {
 intro b hb
 rcases hN2 b hb with e | e
 · rw [if_pos (hlt b e)]; exact hc.t b e
 · rw [if_neg (by omega)]
 }
 · intro q hq; rw [if_pos (by have := hv7 q hq; omega)]; exact hc.l q hq
 · intro b hb; rw [if_pos (hlb b hb)]; exact hc.b b hb
 {
 refine hI.fr hN1 (fun hm => ?_) (fun b hb hm => ?_)
 · have e1 := hc.t mb hm; have e2 := hc.m; omega
 · have e1 := hc.t b hm; have e2 := hc.b b hb; omega
 }
 {
 intro q hq
 rcases hN2 q hq with e | e
 · exact h5 q e
 · exact .inr (by omega)
 }
theorem ins_set (hps : ps < w7.heap.size) (hla : ∀ b ∈ la, b < w7.heap.size) (hv7 : ∀ q, v7.ownBlock = some q → q < w7.heap.size) {lT' lb' : List Nat} {c' : Nat → Nat} {iv : Int → Option Value} (hc : Cls c' ps mb v7 la lT' lb') (hT : TabM wr pt M lT') (hI : IncI wr mb iv f n lb') (hF : Fr (mb :: (lT ++ lb)) w7 wr)
    (h5 : ∀ q ∈ lT', q ∈ lT ∨ w7.heap.size ≤ q) (h6 : ∀ q ∈ lb', q ∈ lb ∨ w7.heap.size ≤ q) {id : Nat} (hid : id < U64) {w8 w9 : World} {v1 : Value} {l1 : List Nat} {n2 : Nat} (h1 : RowI w8 v1 l1) (hne : l1 ≠ [])
    (hF1 : Fr ((iv id).getD nilS).ownBlock.toList wr w8) (hq : ∀ q, v1.ownBlock = some q → ((iv id).getD nilS).ownBlock = some q ∨ wr.heap.size ≤ q)
    (hM : IMap Tryz.prog 26 .u64 okS w9 mb (updM iv id (some v1)) n2) (hF2 : Fr [mb] w8 w9) : InsS w7 ps pt mb v7 la lT lb M (updF f id l1) n2 w9 := by
 have hI2 := hI.set hid h1 hne hF1 hq hM hF2
 have hlt := hT.lt
 have hml := hI.im.lt
 have hsz := hF.size
 have hs8 := hF1.size
 have hs9 := hF2.size
 have hin := (hI.row id hid).2.2
 have hG : Fr (mb :: ((iv id).getD nilS).ownBlock.toList) wr w9 := (hF1.mono (S' := mb :: ((iv id).getD nilS).ownBlock.toList) (fun b hb => .inl (List.mem_cons_of_mem _ hb))).trans hF2 (fun b hb => .inl (by simp at hb; simp [hb]))
 refine ⟨lT', lb' ++ v1.ownBlock.toList, fun x => if x < wr.heap.size then c' x else 5, ⟨?_, ?_, ?_, ?_, ?_, ?_⟩, hT.fr hG (fun b hb hm => ?_), ⟨_, hI2⟩, hF.trans hG (fun b hb => ?_), h5, fun q hqq => ?_⟩
 · rw [if_pos (by omega)]; exact hc.p
 · rw [if_pos hml]; exact hc.m
 · intro b hb; rw [if_pos (by have := hla b hb; omega)]; exact hc.a b hb
 · intro b hb; rw [if_pos (hlt b hb)]; exact hc.t b hb
 · intro q hqq; rw [if_pos (by have := hv7 q hqq; omega)]; exact hc.l q hqq
 {
 intro b hb
 rcases List.mem_append.1 hb with hb | hb
 · rw [if_pos (hI.lt b hb)]; exact hc.b b hb
 {
 rcases hq b (by simpa using hb) with e | e
 {
 have := hin b e
 rw [if_pos (hI.lt b this)]; exact hc.b b this
 }
 · rw [if_neg (by omega)]
 }
 }
 {
 have e0 := hc.t b hb
 rcases List.mem_cons.1 hm with e | e
 · have := hc.m; rw [← e] at this; omega
 · have := hc.b b (hin b (by simpa using e)); omega
 }
 {
 rcases List.mem_cons.1 hb with rfl | e
 · exact .inl (by simp)
 {
 rcases h6 b (hin b (by simpa using e)) with e2 | e2
 · exact .inl (by simp [e2])
 · exact .inr e2
 }
 }
 {
 rcases List.mem_append.1 hqq with e | e
 · exact h6 q e
 {
 rcases hq q (by simpa using e) with e2 | e2
 · exact h6 q (hin q e2)
 · exact .inr (by omega)
 }
 }
end
def insM (M : Md) (u v : Nat) : Nat → Md
  | 0 => M
  | 1 => (M.put u).M
  | _ => ((M.put u).M.put v).M
def insF (f : Nat → List Nat) (u v sl : Nat) : Nat → Nat → List Nat
  | 0 => f
  | 1 => updF f u (f u ++ [sl])
  | _ => updF (updF f u (f u ++ [sl])) v (updF f u (f u ++ [sl]) v ++ [sl])
theorem insF_end {L : List Lv} {e : Lv} (hne : e.u ≠ e.v) : insF (incL L) e.u e.v e.slot 2 = incL (L ++ [e]) := by
 funext id
 rw [incL_snoc]
 show updF (updF (incL L) e.u (incL L e.u ++ [e.slot])) e.v (updF (incL L) e.u (incL L e.u ++ [e.slot]) e.v ++ [e.slot]) id = _
 unfold Lv.at
 by_cases h1 : id = e.v
 {
 subst h1
 rw [updF_same, updF_other (fun h => hne h.symm)]
 simp
 }
 {
 rw [updF_other h1]
 by_cases h2 : id = e.u
 {
 subst h2
 rw [updF_same]; simp
 }
 {
 rw [updF_other h2]
 have b1 : (e.u == id) = false := by simp; omega
 have b2 : (e.v == id) = false := by simp; omega
 rw [b1, b2]; simp
 }
 }
theorem InsS.fr {w7 wr : World} {ps pt mb n : Nat} {v7 : Value} {la lT lb : List Nat} {M : Md} {f : Nat → List Nat} (h : InsS w7 ps pt mb v7 la lT lb M f n wr) : Fr (mb :: (lT ++ lb)) w7 wr := by
 obtain ⟨_, _, _, _, _, _, h, _⟩ := h; exact h
theorem InsS.mok {w7 wr : World} {ps pt mb n : Nat} {v7 : Value} {la lT lb : List Nat} {M : Md} {f : Nat → List Nat} (h : InsS w7 ps pt mb v7 la lT lb M f n wr) : M.Ok := by
 obtain ⟨_, _, _, _, h, _⟩ := h; exact h.ok
theorem lookS {w w' : World} {mb n : Nat} {iv : Int → Option Value} {f : Nat → List Nat} {lb : List Nat} (h : IncI w mb iv f n lb) {id : Nat} (hid : id < U64) {v : Value} (hv : (iv id).getD nilS = v) (he : w'.heap[mb]? = w.heap[mb]?) :
    (Instr.lookup 142 (.map (some mb)) (.int .u64 id) false).run Tryz.prog w' = .ok v w' := by
 have := (h.im.same he).run_get Tryz.underlying26 Tryz.underlying142 (zero_ints w') rfl (wf_u64 hid)
 rw [hv] at this
 exact this
theorem live_set {L : List Lv} {e : Lv} {n : Nat} (hL : ∀ x ∈ L, x.slot ≠ e.slot) (hn : e.slot < n) : ((List.range n).map (liveAt L)).set e.slot e = (List.range n).map (liveAt (L ++ [e])) := by
 refine List.ext_getElem? fun i => ?_
 rw [List.getElem?_set]
 by_cases hi : i < n
 {
 simp only [List.length_map, List.length_range, List.getElem?_map, List.getElem?_range hi, Option.map_some, liveAt_snoc hL]
 by_cases he : e.slot = i
 · rw [if_pos he, if_pos he.symm, if_pos hn]
 · rw [if_neg he, if_neg (fun h => he h.symm)]
 }
 · rw [if_neg (by omega), List.getElem?_eq_none (by simp; omega), List.getElem?_eq_none (by simp; omega)]
section
variable {w w' : World} {ps : Nat} {s : Sm} {K : List Nat}
end
end Go.Proofs.YtgmnemndjjmgkaaGreat

/- slices.Index, slices.Delete, slices.Clone at rows of ints. -/
namespace Go.Proofs.YtgmnemndjjmgkaaGreat
open Go.RowKit Go.Lib Go.Sort
set_option maxRecDepth 10000
set_option maxHeartbeats 800000
def Tryz.laysIdxI_ren : Go.Shelf.Ren := ⟨fun | 29 => 92 | n => n, fun | 22 => 94 | 23 => 3 | 3 => 3 | 0 => 0 | 4 => 4 | n => n, fun | n => n⟩
theorem Tryz.laysIdxI : Go.Proofs.SlLaysE.n29 Tryz.prog Tryz.laysIdxI_ren := {
  mixed := by kernel_rfl
  f29 := ⟨Tryz.f92.name, by decide, Tryz.func92.trans (congrArg some (by kernel_rfl))⟩
  t0 := Tryz.underlying0
  a0 := Tryz.isAgg0
  z0 := Tryz.sizeOf0
  v0 := Tryz.zeroValue0
  t3 := Tryz.underlying3
  a3 := Tryz.isAgg3
  z3 := Tryz.sizeOf3
  v3 := Tryz.zeroValue3
  t4 := Tryz.underlying4
  a4 := Tryz.isAgg4
  z4 := Tryz.sizeOf4
  v4 := Tryz.zeroValue4
  t22 := Tryz.underlying94
  a22 := Tryz.isAgg94
  z22 := Tryz.sizeOf94
  v22 := Tryz.zeroValue94
  a23 := Tryz.isAgg3
  z23 := Tryz.sizeOf3 }
def Tryz.laysDelI_ren : Go.Shelf.Ren := ⟨fun | 45 => 93 | n => n, fun | 22 => 94 | 23 => 3 | 3 => 3 | 4 => 4 | 0 => 0 | n => n, fun | n => n⟩
theorem Tryz.laysDelI : Go.Proofs.SlLaysN.n45 Tryz.prog Tryz.laysDelI_ren := {
  mixed := by kernel_rfl
  f45 := ⟨Tryz.f93.name, by decide, Tryz.func93.trans (congrArg some (by kernel_rfl))⟩
  t0 := Tryz.underlying0
  a0 := Tryz.isAgg0
  z0 := Tryz.sizeOf0
  v0 := Tryz.zeroValue0
  t3 := Tryz.underlying3
  a3 := Tryz.isAgg3
  z3 := Tryz.sizeOf3
  v3 := Tryz.zeroValue3
  t4 := Tryz.underlying4
  a4 := Tryz.isAgg4
  z4 := Tryz.sizeOf4
  v4 := Tryz.zeroValue4
  t22 := Tryz.underlying94
  a22 := Tryz.isAgg94
  z22 := Tryz.sizeOf94
  v22 := Tryz.zeroValue94
  t23 := Tryz.underlying3
  a23 := Tryz.isAgg3
  z23 := Tryz.sizeOf3
  v23 := Tryz.zeroValue3
  i23 := by kernel_rfl }
section
variable {w : World} {v : Value} {p : List Nat}
theorem encN_at {p : List Nat} {j : Nat} (hj : j < p.length) : (encN p)[j]? = some (.int .i64 (p[j]'hj)) := by simp [encN, hj]
theorem idx_ints (h : RowI w v p) (hp : p.length ≤ 16384) {i : Nat} (hi : i < p.length) (hn : p.Nodup) :
    Calls Tryz.prog 92 #[v, .int .i64 (p[i]'hi)] w fun e w' => e = .returned (.int .i64 i) ∧ w' = w := by
 obtain ⟨b, cap, rfl, _, _⟩ := h.at hi
 refine (AnyE.slices_Index Tryz.laysIdxI (fun x : Nat => Value.int .i64 x) (fun x y => x == y) ?_ b 0 p.length cap p (p[i]'hi) w (Nat.le_refl _) (by omega) (fun j hj => ?_)).mono ?_
 · exact ⟨fun x y w => by refine ((EqlAt.int Tryz.prog _ .i64).1 (x : Int) (y : Int) w).trans ?_; by_cases e : x = y; (· simp [e]); (· have e1 : ((x : Int) == (y : Int)) = false := beq_false_of_ne (by omega); have e2 : (x == y) = false := beq_false_of_ne e; simp only [e1, e2]), fun op a b x y w => (GuardAt.int Tryz.prog _ .i64) op a b (x : Int) (y : Int) w⟩
 {
 obtain ⟨b', cap', e, _, hc⟩ := h.at hj
 simp only [Value.slice.injEq, Option.some.injEq, Addr.mk.injEq, true_and] at e
 obtain ⟨⟨rfl, _⟩, _⟩ := e
 rw [Nat.zero_add, hc, getElem!_pos p j hj]
 }
 {
 rintro _ w' ⟨rfl, rfl⟩
 refine ⟨?_, rfl⟩
 rw [Lib.idxBy_hit (fun x y => x == y) p p.length i (p[i]'hi) hi (Nat.le_refl _) (by rw [getElem!_pos p i hi]; simp) (fun j hj => ?_)]
 rw [getElem!_pos p j (by omega)]
 simp only [beq_eq_false_iff_ne]
 intro e
 have := (List.getElem_inj hn).1 e
 omega
 }
theorem del_ints (h : RowI w v p) (hp : p.length ≤ 16384) {i : Nat} (hi : i < p.length) :
    Calls Tryz.prog 93 #[v, .int .i64 i, .int .i64 (i + 1)] w fun e w' => ∃ v', e = .returned v' ∧ RowI w' v' (p.eraseIdx i) ∧ v'.ownBlock = v.ownBlock ∧ Fr v.ownBlock.toList w w' := by
 rcases h.2 with ⟨rfl, h0⟩ | ⟨g, cap, cur, e, hg, hcur, hnc, hcm, hcs, htk⟩
 · omega
 subst e
 obtain ⟨zs, hzs⟩ : ∃ zs : List Int, zs = p.map fun (x : Nat) => (x : Int) := ⟨_, rfl⟩
 have hl : zs.length = p.length := by rw [hzs]; simp
 have hz : zs.map (Value.int .i64) = encN p := by rw [hzs]; simp [encN]
 have hH : Holds (Value.int .i64) w g 0 zs.toArray := holds_of_blockI hcur (by rw [hl, hz]; simpa using htk)
 have hD := AnyG.slices_Delete_int Tryz.laysDelI g 0 cap i (i + 1) zs w hH (by omega) (by unfold maxLen at hcm; omega) (by omega) (by omega)
 rw [hl] at hD
 refine hD.mono ?_
 rintro _ w' ⟨rfl, q, rfl⟩
 have hlen : (zs.take i ++ zs.drop (i + 1) ++ List.replicate (i + 1 - i) 0).length = p.length := by simp; omega
 have hd : p.length - (i + 1 - i) = (p.eraseIdx i).length := by rw [List.length_eraseIdx_of_lt hi]; omega
 have hb : (putRow (Value.int .i64) (Sort.ahead w q) g 0 (zs.take i ++ zs.drop (i + 1) ++ List.replicate (i + 1 - i) 0).toArray).heap[g]? = some (.cells (putCells (Value.int .i64) 0 (zs.take i ++ zs.drop (i + 1) ++ List.replicate (i + 1 - i) 0).toArray cur) 3 (0, 0)) := by simp [putRow, mapBlock, Sort.ahead, Array.getElem?_modify, hcur, onCells]
 refine ⟨_, rfl, ⟨by simp [encN], .inr ⟨g, cap, _, by rw [hd], Nat.zero_le _, hb, by rw [← hd]; omega, hcm, by simp [putCells, hcs], ?_⟩⟩, rfl, ?_⟩
 {
 have h1 := take_putCellsI cur (zs.take i ++ zs.drop (i + 1) ++ List.replicate (i + 1 - i) 0) (by rw [hlen]; omega)
 rw [hlen] at h1
 have h2 := congrArg (List.take (p.eraseIdx i).length) h1
 rw [List.take_take, Nat.min_eq_left (by rw [← hd]; omega)] at h2
 rw [Nat.mul_one, h2, ← List.map_take, List.take_left' (by rw [← hd]; simp; omega), hzs]
 unfold encN
 rw [List.eraseIdx_eq_take_drop_succ]
 simp
 rfl
 }
 {
 refine (Fr.refl _ _).grown ⟨rfl, rfl, rfl, by simp [Sort.ahead], fun k hk hne => ?_⟩ (fun k (e : some g = some k) => .inl (by simp [Value.ownBlock, Option.some.inj e]))
 have : g ≠ k := fun e => hne (by rw [e])
 simp [putRow, mapBlock, Sort.ahead, Array.getElem?_modify, this]
 }
theorem clone_ints (h : RowI w v p) (hp : p.length ≤ 16384) :
    Calls Tryz.prog 105 #[v] w fun e w' => ∃ v', e = .returned v' ∧ RowI w' v' p ∧ (∀ q, v'.ownBlock = some q → w.heap.size ≤ q) ∧ Fr [] w w' := by
 obtain ⟨i0, hi, hz0, hz1, hz2⟩ := info_parts Tryz.info3
 rcases h.2 with ⟨rfl, h0⟩ | ⟨g, cap, cur, e, hg, hcur, hnc, hcm, hcs, htk⟩
 {
 have hn : p = [] := List.length_eq_zero_iff.1 (by simpa using h0)
 subst hn
 refine (AnyE.slices_Clone_nil Tryz.laysCloneI 0 0 w).mono ?_
 rintro _ _ ⟨rfl, rfl⟩
 exact ⟨_, rfl, h, fun q e => (by cases e), Fr.refl _ _⟩
 }
 {
 subst e
 refine (AnyE.slices_Clone Tryz.laysCloneI i0 (.int .i64 0) 1 8 hi hz0 hz1 hz2 rfl (by decide) Tryz.sizeOf3 g 0 p.length cap (encN p) w (by simp [encN]) (by unfold maxLen; omega) (by omega) (fun j u hj => ?_) (fun u hu => ?_)).mono ?_
 {
 have hjl : j < p.length := by have := (List.getElem?_eq_some_iff.1 hj).1; simpa [encN] using this
 obtain ⟨b', cap', e, _, hc⟩ := h.at hjl
 simp only [Value.slice.injEq, Option.some.injEq, Addr.mk.injEq, true_and] at e
 obtain ⟨⟨rfl, _⟩, _⟩ := e
 rw [Nat.zero_add, hc, ← hj, encN_at hjl]
 }
 {
 simp only [encN, List.mem_map] at hu
 obtain ⟨k, _, rfl⟩ := hu; rfl
 }
 {
 rintro _ w' ⟨v', rfl, h1, _, hB⟩
 refine ⟨v', rfl, ?_, ownsRow_new h1, Fr.of_below hB⟩
 exact ownsRow_to0 h1
 }
 }
end
end Go.Proofs.YtgmnemndjjmgkaaGreat

/- store: Get, Incident; arena.Free at a slot that is not in use. -/
namespace Go.Proofs.YtgmnemndjjmgkaaGreat
open Go.RowKit
set_option maxRecDepth 10000
set_option maxHeartbeats 800000
section
variable {w w' : World} {ps : Nat} {s : Sm} {K : List Nat}
end
end Go.Proofs.YtgmnemndjjmgkaaGreat

/- The plain model of a window, its store's part: what the schedule and the forest know of the edges. -/
namespace Go.Proofs.YtgmnemndjjmgkaaGreat
open Go.RowKit
set_option maxRecDepth 10000
theorem find_congr_mem {M N : Md} (hM : M.Ok) (hN : N.Ok) {x : Nat} (h : ∀ j, (x, j) ∈ M.L ↔ (x, j) ∈ N.L) : M.find x = N.find x := by
 apply Option.ext
 intro j
 rw [Md.find_iff hM, Md.find_iff hN, h]
theorem find_del_ne {M : Md} (h : M.Ok) {id x : Nat} (hne : x ≠ id) : (M.del id).M.find x = M.find x := by
 refine find_congr_mem (Md.ok_del h id) h fun j => ?_
 unfold Md.del
 cases hi : M.find id with
 | none => exact Iff.rfl
 | some i => {
 simp only [Md.rem, List.mem_filter, bne_iff_ne]
 exact ⟨fun h => h.1, fun h => ⟨h, hne⟩⟩
 }
theorem find_delIf {M : Md} (h : M.Ok) {L : List Lv} {id x : Nat} (hx : x = id → incL L id ≠ []) : (Sm.delIf M L id).find x = M.find x := by
 unfold Sm.delIf
 split
 {
 rename_i hn
 exact find_del_ne h (fun e => hx e hn)
 }
 · rfl
theorem find_put {M : Md} (h : M.Ok) {id x : Nat} (hid : id < 18446744073709551616) (hx : (M.find x).isSome = true ∨ x ≠ id) : (M.put id).M.find x = M.find x := by
 unfold Md.put
 cases hi : M.find id with
 | some i => rfl
 | none => {
 cases hn : M.next with
 | none => rfl
 | some i => {
 show (M.add id i).find x = _
 rw [find_add h hid hi hn, if_neg]
 rintro rfl
 rcases hx with e | e
 · rw [hi] at e; cases e
 · exact e rfl
 }
 }
section
variable {s : Sm} {i : Nat}
theorem mem_rem {e : Lv} : e ∈ (s.rem i).L ↔ e ∈ s.L ∧ e.slot ≠ i := by
 show e ∈ s.L.filter (fun e => e.slot != i) ↔ _
 simp [List.mem_filter]
theorem rem_find (h : s.Ok) {e : Lv} (he : e ∈ (s.rem i).L) {x : Nat} (hx : e.at x = true) : (s.rem i).M.find x = s.M.find x := by
 have hne : incL (s.L.filter fun e => e.slot != i) x ≠ [] := List.ne_nil_of_mem (mem_incL.2 ⟨e, he, hx, rfl⟩)
 show (Sm.delIf (Sm.delIf s.M (s.L.filter fun e => e.slot != i) (liveAt s.L i).u) (s.L.filter fun e => e.slot != i) (liveAt s.L i).v).find x = _
 rw [find_delIf (Sm.delIf_ok h.md _ _) (fun e => e ▸ hne), find_delIf h.md (fun e => e ▸ hne)]
theorem vert_mem (h : s.Ok) {e : Lv} (he : e ∈ s.L) {x : Nat} (hx : e.at x = true) : (s.M.find x).isSome = true := (h.vert x).2 (List.ne_nil_of_mem (mem_incL.2 ⟨e, he, hx, rfl⟩))
end
structure Lk (s : Sm) (Q : Nat → Option Int) (G : Nat → Option (Nat × Nat × Int)) : Prop where
  q : ∀ i x, Q i = some x ↔ ∃ e ∈ s.L, e.slot = i ∧ e.x = x
  g : ∀ i a b x, G i = some (a, b, x) ↔ ∃ e ∈ s.L, e.slot = i ∧ s.M.find e.u = some a ∧ s.M.find e.v = some b ∧ e.x = x
section
variable {s : Sm} {Q : Nat → Option Int} {G : Nat → Option (Nat × Nat × Int)}
theorem Lk.new (V E last : Nat) : Lk (Sm.new V E last) (fun _ => none) (fun _ => none) := ⟨fun i x => by simp [Sm.new], fun i a b x => by simp [Sm.new]⟩
theorem Lk.drop (h : Lk s Q G) (hok : s.Ok) (i : Nat) : Lk (s.rem i) (fun j => if j = i then none else Q j) (fun j => if j = i then none else G j) := by
 constructor
 {
 intro j x
 by_cases e : j = i
 {
 subst e
 simp only [if_true]
 constructor
 · intro h; cases h
 {
 rintro ⟨e, he, hs, _⟩
 exact absurd hs (mem_rem.1 he).2
 }
 }
 {
 simp only [if_neg e]
 rw [h.q]
 constructor
 · rintro ⟨d, hd, hs, hx⟩; exact ⟨d, mem_rem.2 ⟨hd, by omega⟩, hs, hx⟩
 · rintro ⟨d, hd, hs, hx⟩; exact ⟨d, (mem_rem.1 hd).1, hs, hx⟩
 }
 }
 {
 intro j a b x
 by_cases e : j = i
 {
 subst e
 simp only [if_true]
 constructor
 · intro h; cases h
 {
 rintro ⟨e, he, hs, _⟩
 exact absurd hs (mem_rem.1 he).2
 }
 }
 {
 simp only [if_neg e]
 rw [h.g]
 constructor
 {
 rintro ⟨d, hd, hs, h1, h2, hx⟩
 have hd' : d ∈ (s.rem i).L := mem_rem.2 ⟨hd, by omega⟩
 exact ⟨d, hd', hs, by rw [rem_find hok hd' (by simp [Lv.at])]; exact h1, by rw [rem_find hok hd' (by simp [Lv.at])]; exact h2, hx⟩
 }
 {
 rintro ⟨d, hd, hs, h1, h2, hx⟩
 rw [rem_find hok hd (by simp [Lv.at])] at h1
 rw [rem_find hok hd (by simp [Lv.at])] at h2
 exact ⟨d, (mem_rem.1 hd).1, hs, h1, h2, hx⟩
 }
 }
 }
theorem Lk.free (h : Lk s Q G) (hok : s.Ok) {i : Nat} (hi : ¬ s.A.isUsed i) : Q i = none ∧ G i = none := by
 have hno : ∀ e ∈ s.L, e.slot ≠ i := fun e he hs => hi ((hok.used i).2 ⟨e, he, hs⟩)
 constructor
 {
 cases hq : Q i with
 | none => rfl
 | some x => {
 obtain ⟨e, he, hs, _⟩ := (h.q i x).1 hq
 exact absurd hs (hno e he)
 }
 }
 {
 cases hg : G i with
 | none => rfl
 | some p => {
 obtain ⟨a, b, x⟩ := p
 obtain ⟨e, he, hs, _⟩ := (h.g i a b x).1 hg
 exact absurd hs (hno e he)
 }
 }
theorem Lk.ins (h : Lk s Q G) (hok : s.Ok) {u v : Nat} (hu : u < 18446744073709551616) (hv : v < 18446744073709551616) (hc : s.chk u v = 0) (wt t x : Int) {a b : Nat} (ha : (s.ins u v wt t x).M.find u = some a) (hb : (s.ins u v wt t x).M.find v = some b) :
    Lk (s.ins u v wt t x) (fun j => if j = s.slot then some x else Q j) (fun j => if j = s.slot then some (a, b, x) else G j) := by
 have hok1 := Md.ok_put hok.md hu
 have hfree : ∀ e ∈ s.L, e.slot ≠ s.slot := fun e he hs => (Md.isUsed_alloc' hok.ar (Sm.slot_next hok hc)).1 ((hok.used _).2 ⟨e, he, hs⟩)
 have hf : ∀ y, (s.M.find y).isSome = true → (s.ins u v wt t x).M.find y = s.M.find y := fun y hy => by
   show ((s.M.put u).M.put v).M.find y = _
   have h1 := find_put hok.md (x := y) hu (.inl hy)
   rw [find_put hok1 hv (.inl (by rw [h1]; exact hy)), h1]
 have hL : (s.ins u v wt t x).L = s.L ++ [s.edge u v wt t x] := rfl
 constructor
 {
 intro j y
 rw [hL]
 by_cases e : j = s.slot
 {
 subst e
 simp only [if_true, List.mem_append, List.mem_singleton]
 constructor
 · intro hx; exact ⟨s.edge u v wt t x, .inr rfl, rfl, Option.some.inj hx⟩
 {
 rintro ⟨d, hd | hd, hs, hx⟩
 · exact absurd hs (hfree d hd)
 · subst hd; exact congrArg some hx
 }
 }
 {
 simp only [if_neg e, List.mem_append, List.mem_singleton]
 rw [h.q]
 constructor
 · rintro ⟨d, hd, hs, hx⟩; exact ⟨d, .inl hd, hs, hx⟩
 {
 rintro ⟨d, hd | hd, hs, hx⟩
 · exact ⟨d, hd, hs, hx⟩
 · subst hd; exact absurd hs.symm e
 }
 }
 }
 {
 intro j c d y
 rw [hL]
 by_cases e : j = s.slot
 {
 subst e
 simp only [if_true, List.mem_append, List.mem_singleton]
 constructor
 {
 intro hx
 simp only [Option.some.injEq, Prod.mk.injEq] at hx
 obtain ⟨rfl, rfl, rfl⟩ := hx
 exact ⟨s.edge u v wt t x, .inr rfl, rfl, ha, hb, rfl⟩
 }
 {
 rintro ⟨d', hd | hd, hs, h1, h2, hx⟩
 · exact absurd hs (hfree d' hd)
 {
 subst hd
 have e1 : some a = some c := ha.symm.trans h1
 have e2 : some b = some d := hb.symm.trans h2
 have e3 : x = y := hx
 rw [Option.some.inj e1, Option.some.inj e2, e3]
 }
 }
 }
 {
 simp only [if_neg e, List.mem_append, List.mem_singleton]
 rw [h.g]
 constructor
 {
 rintro ⟨d', hd, hs, h1, h2, hx⟩
 exact ⟨d', .inl hd, hs, by rw [hf _ (vert_mem hok hd (by simp [Lv.at]))]; exact h1, by rw [hf _ (vert_mem hok hd (by simp [Lv.at]))]; exact h2, hx⟩
 }
 {
 rintro ⟨d', hd | hd, hs, h1, h2, hx⟩
 {
 rw [hf _ (vert_mem hok hd (by simp [Lv.at]))] at h1 h2
 exact ⟨d', hd, hs, h1, h2, hx⟩
 }
 · subst hd; exact absurd hs.symm e
 }
 }
 }
end
end Go.Proofs.YtgmnemndjjmgkaaGreat

/- The plain model of a window: what is due is taken out, least first. -/
namespace Go.Proofs.YtgmnemndjjmgkaaGreat
open Go.RowKit
set_option maxRecDepth 10000
inductive Mins (to : Int) : (Nat → Option Int) → List Nat → (Nat → Option Int) → Prop
  | done (Q : Nat → Option Int) (h : ∀ i x, Q i = some x → to < x) : Mins to Q [] Q
  | more (Q : Nat → Option Int) (i : Nat) (x : Int) (ds : List Nat) (Q' : Nat → Option Int) (hq : Q i = some x) (hx : x ≤ to) (hm : ∀ j y, Q j = some y → ¬ (y < x ∨ (y = x ∧ j < i)))
      (h : Mins to (fun j => if j = i then none else Q j) ds Q') : Mins to Q (i :: ds) Q'
def Sm.rems (s : Sm) (ds : List Nat) : Sm := ds.foldl Sm.rem s
theorem Sm.rems_cons (s : Sm) (i : Nat) (ds : List Nat) : s.rems (i :: ds) = (s.rem i).rems ds := rfl
theorem lk_used {s : Sm} {Q : Nat → Option Int} {G : Nat → Option (Nat × Nat × Int)} (h : Lk s Q G) (hok : s.Ok) {i : Nat} {x : Int} (hq : Q i = some x) : s.A.isUsed i := by
 obtain ⟨e, he, hs, _⟩ := (h.q i x).1 hq
 exact (hok.used i).2 ⟨e, he, hs⟩
theorem slot_one {L : List Lv} (h : (L.map (·.slot)).Nodup) {e d : Lv} (he : e ∈ L) (hd : d ∈ L) (hs : e.slot = d.slot) : e = d := by
 have h1 := liveAt_mem h he
 have h2 := liveAt_mem h hd
 rw [← h1, ← h2, hs]
theorem rems_keep (s : Sm) : ∀ ds : List Nat, (s.rems ds).V = s.V ∧ (s.rems ds).E = s.E ∧ (s.rems ds).last = s.last := by
 intro ds
 induction ds generalizing s with
 | nil => exact ⟨rfl, rfl, rfl⟩
 | cons i r ih => rw [Sm.rems_cons]; exact ih (s.rem i)
theorem Mins.law {to : Int} {Q Q' : Nat → Option Int} {ds : List Nat} (h : Mins to Q ds Q') : ∀ {s : Sm} {G : Nat → Option (Nat × Nat × Int)}, Lk s Q G → s.Ok →
    (s.rems ds).Ok ∧ (s.rems ds).L = s.L.filter (fun e => decide (to < e.x)) ∧ Lk (s.rems ds) Q' (fun j => if j ∈ ds then none else G j) ∧ ds.length + (s.rems ds).L.length = s.L.length := by
 induction h with
 | done Q h => {
 intro s G hl hok
 have hf : s.L.filter (fun e => decide (to < e.x)) = s.L := List.filter_eq_self.2 fun e he => by simpa using h e.slot e.x ((hl.q _ _).2 ⟨e, he, rfl, rfl⟩)
 refine ⟨hok, hf.symm, ?_, by simp [Sm.rems]⟩
 simpa [Sm.rems] using hl
 }
 | more Q i x ds Q' hq hx hm h ih => {
 intro s G hl hok
 have hu := lk_used hl hok hq
 obtain ⟨d, hd, hds, hdx⟩ := (hl.q i x).1 hq
 have hok1 := Sm.ok_rem hok hu
 obtain ⟨h1, h2, h3, h4⟩ := ih (hl.drop hok i) hok1
 have hL : (s.rem i).L = s.L.filter (fun e => e.slot != i) := rfl
 rw [Sm.rems_cons]
 refine ⟨h1, ?_, ?_, ?_⟩
 {
 rw [h2, hL, List.filter_filter]
 refine List.filter_congr fun e he => ?_
 by_cases hs : e.slot = i
 {
 have : e = d := slot_one hok.one he hd (by omega)
 subst this
 simp [hs]; omega
 }
 · simp [hs]
 }
 {
 have : (fun j => if j ∈ i :: ds then none else G j) = fun j => if j ∈ ds then none else if j = i then none else G j := by {
 funext j
 by_cases e : j = i
 · subst e; simp
 · by_cases e2 : j ∈ ds <;> simp [e, e2]
 }
 rw [this]; exact h3
 }
 {
 have h5 : (s.L.filter fun e => e.slot != i).length + 1 = s.L.length := by {
 have hp : ∀ L : List Lv, (L.map (·.slot)).Nodup → d ∈ L → (L.filter fun e => e.slot != i).length + 1 = L.length := by {
 intro L
 induction L with
 | nil => intro _ h; cases h
 | cons a r ihr => {
 intro hn hm
 simp only [List.map_cons, List.nodup_cons] at hn
 rcases List.mem_cons.1 hm with rfl | hm
 {
 have hr : r.filter (fun e => e.slot != i) = r := List.filter_eq_self.2 fun e he => by
   simp only [bne_iff_ne]; exact fun h => hn.1 (List.mem_map.2 ⟨e, he, by omega⟩)
 rw [List.filter_cons_of_neg (by simp [hds]), hr]; rfl
 }
 {
 have hne : a.slot ≠ i := fun h => hn.1 (List.mem_map.2 ⟨d, hm, by omega⟩)
 rw [List.filter_cons_of_pos (by simpa using hne)]
 simp only [List.length_cons]
 have := ihr hn.2 hm; omega
 }
 }
 }
 exact hp s.L hok.one hd
 }
 rw [hL] at h4
 simp only [List.length_cons]; omega
 }
 }
end Go.Proofs.YtgmnemndjjmgkaaGreat

/- The plain model of a window: there is no less room without some edges. -/
namespace Go.Proofs.YtgmnemndjjmgkaaGreat
open Go.RowKit
set_option maxRecDepth 10000
theorem nodup_sub_len {l m : List Nat} (hl : l.Nodup) (hs : ∀ x ∈ l, x ∈ m) : l.length ≤ m.length := by
 induction l generalizing m with
 | nil => simp
 | cons a r ih => {
 simp only [List.nodup_cons] at hl
 have ha : a ∈ m := hs a (by simp)
 have h1 : r.length ≤ (m.erase a).length := ih hl.2 fun x hx => (List.mem_erase_of_ne (fun e => hl.1 (by rw [← e]; exact hx))).2 (hs x (by simp [hx]))
 rw [List.length_erase_of_mem ha] at h1
 have : 0 < m.length := List.length_pos_of_mem ha
 simp only [List.length_cons]; omega
 }
def withUV (M : Md) (u v : Nat) : List Nat := M.L.map (·.1) ++ [u, v].filter fun x => !(M.find x).isSome
theorem withUV_len (M : Md) (u v : Nat) : (withUV M u v).length = M.L.length + ((if (M.find u).isSome = true then 0 else 1) + if (M.find v).isSome = true then 0 else 1) := by
 unfold withUV
 rw [List.length_append, List.length_map]
 congr 1
 cases hu : (M.find u).isSome <;> cases hv : (M.find v).isSome <;> simp only [List.filter, hu, hv] <;> rfl
theorem mem_ids_find {M : Md} (h : M.Ok) {x : Nat} : x ∈ M.L.map (·.1) ↔ (M.find x).isSome = true := by
 rw [List.mem_map, Option.isSome_iff_exists]
 constructor
 · rintro ⟨⟨a, i⟩, hx, rfl⟩; exact ⟨i, (Md.find_iff h).2 hx⟩
 · rintro ⟨i, hi⟩; exact ⟨(x, i), Md.find_mem hi, rfl⟩
theorem withUV_mem {M : Md} (h : M.Ok) {u v x : Nat} : x ∈ withUV M u v ↔ (M.find x).isSome = true ∨ x = u ∨ x = v := by
 unfold withUV
 rw [List.mem_append, mem_ids_find h]
 simp only [List.mem_filter, List.mem_cons, List.not_mem_nil, or_false, Bool.not_eq_true']
 constructor
 {
 rintro (h | ⟨h, _⟩)
 · exact .inl h
 · exact .inr h
 }
 {
 rintro (h | h)
 · exact .inl h
 {
 by_cases hf : (M.find x).isSome = true
 · exact .inl hf
 · exact .inr ⟨h, by simpa using hf⟩
 }
 }
theorem withUV_nodup {M : Md} (h : M.Ok) {u v : Nat} (hne : u ≠ v) : (withUV M u v).Nodup := by
 unfold withUV
 rw [List.nodup_append]
 refine ⟨h.ids, (List.nodup_cons.2 ⟨by simpa using hne, by simp⟩).filter _, fun a ha b hb e => ?_⟩
 subst e
 rw [mem_ids_find h] at ha
 simp only [List.mem_filter, Bool.not_eq_true'] at hb
 rw [ha] at hb; cases hb.2
theorem chk_less {s s' : Sm} (h : s.Ok) (h' : s'.Ok) (hV : s'.V = s.V) (hE : s'.E = s.E) (hL : ∀ e ∈ s'.L, e ∈ s.L) (hn : s'.L.length ≤ s.L.length) {u v : Nat} (hc : s.chk u v = 0) : s'.chk u v = 0 := by
 obtain ⟨h1, h2, h3⟩ := Sm.chk_ok h hc
 rw [Sm.len_used h] at h2
 have hm : s'.M.L.length + s'.more u v ≤ s.M.L.length + s.more u v := by {
 have e1 := withUV_len s.M u v
 have e2 := withUV_len s'.M u v
 have e3 : (withUV s'.M u v).length ≤ (withUV s.M u v).length := nodup_sub_len (withUV_nodup h'.md h1) fun x hx => by
   rw [withUV_mem h.md]
   rw [withUV_mem h'.md] at hx
   refine hx.imp (fun hx => ?_) id
   rw [h.vert]
   rw [h'.vert] at hx
   obtain ⟨k, hk⟩ := List.exists_mem_of_ne_nil _ hx
   obtain ⟨e, he, hat, _⟩ := mem_incL.1 hk
   exact List.ne_nil_of_mem (mem_incL.2 ⟨e, hL e he, hat, rfl⟩)
 unfold Sm.more
 omega
 }
 unfold Sm.chk
 rw [if_neg h1, Sm.len_used h', hE, hV, if_neg (by omega), if_neg (by omega)]
end Go.Proofs.YtgmnemndjjmgkaaGreat

/- The plain model of a window: its state, a tick, an edge more. -/
namespace Go.Proofs.YtgmnemndjjmgkaaGreat
open Go.RowKit
set_option maxRecDepth 10000
structure Wm where
  m : Int
  E : Nat
  V : Nat
  D : Int
  now : Int
  s : Sm
  Q : Nat → Option Int
  G : Nat → Option (Nat × Nat × Int)
  gone : Nat
structure Wm.Ok (W : Wm) : Prop where
  ok : W.s.Ok
  hV : W.s.V = W.V
  hE : W.s.E = W.E
  lk : Lk W.s W.Q W.G
  x : ∀ e ∈ W.s.L, e.x = e.t + W.m ∧ 0 ≤ e.t ∧ e.t ≤ W.now ∧ W.now < e.x
  mono : W.s.L.Pairwise fun a b => a.t ≤ b.t
  num : ∀ i (h : i < W.s.L.length), (W.s.L[i]).seq = W.gone + i + 1
  last : W.s.last = W.gone + W.s.L.length
  max : W.s.last ≤ 9223372036854775807
  m1 : 1 ≤ W.m
  m2 : W.m ≤ 9223372036854775807
  n0 : 0 ≤ W.now
  n1 : W.now + W.m ≤ 9223372036854775807
theorem filter_drop {L : List Lv} {to : Int} (h : L.Pairwise fun a b => a.x ≤ b.x) : ∃ k, k ≤ L.length ∧ L.filter (fun e => decide (to < e.x)) = L.drop k := by
 induction L with
 | nil => exact ⟨0, by simp, rfl⟩
 | cons a r ih => {
 rw [List.pairwise_cons] at h
 by_cases ha : to < a.x
 {
 refine ⟨0, by simp, ?_⟩
 rw [List.drop_zero]
 refine List.filter_eq_self.2 fun e he => ?_
 rcases List.mem_cons.1 he with rfl | he
 · simpa using ha
 {
 have := h.1 e he
 simp; omega
 }
 }
 {
 obtain ⟨k, hk, e⟩ := ih h.2
 refine ⟨k + 1, by simp; omega, ?_⟩
 rw [List.filter_cons_of_neg (by simpa using ha), e]; rfl
 }
 }
def Wm.tick (W : Wm) (to : Int) (ds : List Nat) (Q' : Nat → Option Int) : Wm := { W with now := to, s := W.s.rems ds, Q := Q', G := fun j => if j ∈ ds then none else W.G j, gone := W.gone + ds.length }
theorem Wm.tick_ok {W : Wm} (h : W.Ok) {to : Int} (h1 : W.now ≤ to) (h2 : to + W.m ≤ 9223372036854775807) {ds : List Nat} {Q' : Nat → Option Int} (hm : Mins to W.Q ds Q') : (W.tick to ds Q').Ok ∧ (W.tick to ds Q').s.L = W.s.L.filter (fun e => decide (to < e.x)) ∧ (W.tick to ds Q').s.last = W.s.last := by
 obtain ⟨k1, k2, k3, k4⟩ := hm.law h.lk h.ok
 obtain ⟨r1, r2, r3⟩ := rems_keep W.s ds
 have hx : W.s.L.Pairwise fun a b => a.x ≤ b.x := by {
 refine List.Pairwise.imp_of_mem ?_ h.mono
 intro a b ha hb hab
 have := h.x a ha; have := h.x b hb; omega
 }
 obtain ⟨k, hk, hf⟩ := filter_drop (to := to) hx
 have hkd : k = ds.length := by rw [k2, hf, List.length_drop] at k4; omega
 refine ⟨⟨k1, r1.trans h.hV, r2.trans h.hE, k3, fun e he => ?_, ?_, fun i hi => ?_, ?_, ?_, h.m1, h.m2, Int.le_trans h.n0 h1, h2⟩, k2, r3⟩
 {
 rw [show (W.tick to ds Q').s.L = _ from k2, List.mem_filter] at he
 have h3 := h.x e he.1
 have h4 : to < e.x := by simpa using he.2
 exact ⟨h3.1, h3.2.1, Int.le_trans h3.2.2.1 h1, h4⟩
 }
 {
 show ((W.s.rems ds).L).Pairwise _
 rw [k2]; exact h.mono.sublist List.filter_sublist
 }
 {
 have hL : (W.s.rems ds).L = W.s.L.drop ds.length := by rw [k2, hf, hkd]
 have hi' : i < (W.s.rems ds).L.length := hi
 have hi2 : ds.length + i < W.s.L.length := by rw [hL, List.length_drop] at hi'; omega
 have e : (W.s.rems ds).L[i]'hi' = W.s.L[ds.length + i]'hi2 := by {
 have h5 : (W.s.rems ds).L[i]? = W.s.L[ds.length + i]? := by rw [hL, List.getElem?_drop]
 rw [List.getElem?_eq_getElem hi', List.getElem?_eq_getElem hi2] at h5
 exact Option.some.inj h5
 }
 show ((W.s.rems ds).L[i]'hi').seq = W.gone + ds.length + i + 1
 rw [e, h.num]; omega
 }
 {
 show (W.s.rems ds).last = W.gone + ds.length + (W.s.rems ds).L.length
 rw [r3, h.last]; omega
 }
 {
 show (W.s.rems ds).last ≤ _
 rw [r3]; exact h.max
 }
def Wm.put (W : Wm) (u v : Nat) (wt : Int) (a b : Nat) : Wm := { W with s := W.s.ins u v wt W.now (W.now + W.m), Q := fun j => if j = W.s.slot then some (W.now + W.m) else W.Q j, G := fun j => if j = W.s.slot then some (a, b, W.now + W.m) else W.G j }
theorem Wm.put_ok {W : Wm} (h : W.Ok) {u v : Nat} (hu : u < 18446744073709551616) (hv : v < 18446744073709551616) (wt : Int) (hc : W.s.chk u v = 0) (hl : W.s.last < 9223372036854775807) {a b : Nat}
    (ha : (W.s.ins u v wt W.now (W.now + W.m)).M.find u = some a) (hb : (W.s.ins u v wt W.now (W.now + W.m)).M.find v = some b) : (W.put u v wt a b).Ok := by
 have hL : (W.put u v wt a b).s.L = W.s.L ++ [W.s.edge u v wt W.now (W.now + W.m)] := rfl
 have hm1 := h.m1
 refine ⟨Sm.ok_ins h.ok hu hv hc (by omega) wt W.now (W.now + W.m), h.hV, h.hE, h.lk.ins h.ok hu hv hc wt W.now (W.now + W.m) ha hb, fun e he => ?_, ?_, fun i hi => ?_, ?_, ?_, h.m1, h.m2, h.n0, h.n1⟩
 {
 rw [hL, List.mem_append, List.mem_singleton] at he
 rcases he with he | rfl
 · exact h.x e he
 · exact ⟨rfl, h.n0, Int.le_refl _, by show W.now < W.now + W.m; omega⟩
 }
 {
 rw [hL, List.pairwise_append]
 exact ⟨h.mono, by simp, fun d hd e he => by
   rw [List.mem_singleton] at he; subst he
   exact (h.x d hd).2.2.1⟩
 }
 {
 have hi' : i < (W.s.L ++ [W.s.edge u v wt W.now (W.now + W.m)]).length := hi
 show ((W.s.L ++ [W.s.edge u v wt W.now (W.now + W.m)])[i]'hi').seq = W.gone + i + 1
 rw [List.getElem_append]
 split
 · exact h.num i _
 {
 have : i = W.s.L.length := by simp at hi'; omega
 subst this
 simp only [Nat.sub_self, List.getElem_singleton]
 show W.s.last + 1 = _
 rw [h.last]
 }
 }
 {
 show W.s.last + 1 = W.gone + (W.s.L ++ [W.s.edge u v wt W.now (W.now + W.m)]).length
 rw [h.last]; simp; omega
 }
 {
 show W.s.last + 1 ≤ _
 omega
 }
def Wm.new (m : Int) (E V : Nat) (D : Int) (gone : Nat) : Wm := { m := m, E := E, V := V, D := D, now := 0, s := Sm.new V E gone, Q := fun _ => none, G := fun _ => none, gone := gone }
theorem Wm.new_ok {m : Int} {E V : Nat} {D : Int} {gone : Nat} (h1 : 1 ≤ m) (h2 : m ≤ 9223372036854775807) (hE : E ≤ 16384) (hV : V ≤ 4096) (hg : gone ≤ 9223372036854775807) : (Wm.new m E V D gone).Ok :=
  ⟨Sm.ok_new hV hE (by omega), rfl, rfl, Lk.new _ _ _, fun e he => (by cases he), List.Pairwise.nil, fun i hi => absurd hi (Nat.not_lt_zero _), rfl, hg, h1, h2, Int.le_refl _, by show 0 + m ≤ _; omega⟩
end Go.Proofs.YtgmnemndjjmgkaaGreat

/- The nodes of a link-cut forest in memory. -/
namespace Go.Proofs.YtgmnemndjjmgkaaGreat
open Go.RowKit
structure Nd where
  k0 : Nat
  k1 : Nat
  up : Nat
  flip : Bool
  key : Int
  size : Int
  first : Nat
  light : Int
  total : Int
def fv (n : Nd) : Nat → Value
  | 0 => .int .i64 n.k0
  | 1 => .int .i64 n.k1
  | 2 => .int .i64 n.up
  | 3 => .bool n.flip
  | 4 => .int .i64 n.key
  | 5 => .int .i64 n.size
  | 6 => .int .i64 n.first
  | 7 => .int .i64 n.light
  | _ => .int .i64 n.total
abbrev Tbl := Nat → Nd
def Tbl.upd (σ : Tbl) (i : Nat) (n : Nd) : Tbl := fun j => if j = i then n else σ j
def NodesAt (w : World) (g N : Nat) (σ : Tbl) : Prop :=
  ∃ arr : Array Value, w.heap[g]? = some (.cells arr 191 (0, 0)) ∧ N * 9 ≤ arr.size ∧ ∀ i, i < N → ∀ f, f < 9 → arr[i * 9 + f]? = some (fv (σ i) f)
theorem NodesAt.cell {w : World} {g N : Nat} {σ : Tbl} (h : NodesAt w g N σ) {i f : Nat} (hi : i < N) (hf : f < 9) : w.cell? ⟨g, i * 9 + f, none⟩ = some (fv (σ i) f) := by
 obtain ⟨arr, h1, _, h2⟩ := h
 simp [World.cell?, h1]; exact h2 i hi f hf
theorem NodesAt.frozen {w : World} {g N : Nat} {σ : Tbl} (h : NodesAt w g N σ) (c : Nat) : w.frozen? ⟨g, c, none⟩ = false := by
 obtain ⟨arr, h1, _⟩ := h
 simp [World.frozen?, h1]
theorem NodesAt.lt {w : World} {g N : Nat} {σ : Tbl} (h : NodesAt w g N σ) : g < w.heap.size := by
 obtain ⟨arr, h1, _⟩ := h; exact (Array.getElem?_eq_some_iff.1 h1).1
theorem NodesAt.same {w w' : World} {g N : Nat} {σ : Tbl} (h : NodesAt w g N σ) (e : w'.heap[g]? = w.heap[g]?) : NodesAt w' g N σ := by
 obtain ⟨arr, h1, r⟩ := h; exact ⟨arr, e.trans h1, r⟩
theorem NodesAt.eqv {w w' : World} {g N : Nat} {σ : Tbl} (h : NodesAt w g N σ) (e : Eqv w' w) : NodesAt w' g N σ := h.same (by rw [e.heap])
theorem NodesAt.congr {w : World} {g N : Nat} {σ τ : Tbl} (h : NodesAt w g N σ) (e : ∀ i, i < N → σ i = τ i) : NodesAt w g N τ := by
 obtain ⟨arr, h1, h2, h3⟩ := h
 exact ⟨arr, h1, h2, fun i hi f hf => by rw [← e i hi]; exact h3 i hi f hf⟩
theorem NodesAt.store {w : World} {g N : Nat} {σ : Tbl} (h : NodesAt w g N σ) {i f : Nat} (hi : i < N) (hf : f < 9) (n : Nd) (v : Value) (hv : fv n f = v) (ho : ∀ f', f' < 9 → f' ≠ f → fv n f' = fv (σ i) f') :
    NodesAt (w.setCell ⟨g, i * 9 + f, none⟩ v) g N (σ.upd i n) := by
 obtain ⟨arr, h1, h2, h3⟩ := h
 refine ⟨arr.setIfInBounds (i * 9 + f) v, ?_, by simpa using h2, fun j hj f' hf' => ?_⟩
 {
 simp only [World.setCell, Array.getElem?_modify]
 simp [h1]
 }
 {
 rw [Array.getElem?_setIfInBounds]
 by_cases e : i * 9 + f = j * 9 + f'
 {
 have e1 : i = j := by omega
 have e2 : f = f' := by omega
 subst e1; subst e2
 rw [if_pos rfl, if_pos (by omega)]
 simp [Tbl.upd, hv]
 }
 {
 rw [if_neg e, h3 j hj f' hf']
 simp only [Tbl.upd]
 by_cases ej : j = i
 · subst ej; rw [if_pos rfl, ho f' hf' (fun e' => e (by omega))]
 · rw [if_neg ej]
 }
 }
section
variable {w : World} {g N : Nat} {σ : Tbl} (h : NodesAt w g N σ)
include h
theorem NodesAt.c0 : ∀ i, i < N → w.cell? ⟨g, i * 9, none⟩ = some (.int .i64 (σ i).k0) := fun i hi => h.cell (f := 0) hi (by decide)
theorem NodesAt.c1 : ∀ i, i < N → w.cell? ⟨g, i * 9 + 1, none⟩ = some (.int .i64 (σ i).k1) := fun i hi => h.cell (f := 1) hi (by decide)
theorem NodesAt.c2 : ∀ i, i < N → w.cell? ⟨g, i * 9 + 2, none⟩ = some (.int .i64 (σ i).up) := fun i hi => h.cell (f := 2) hi (by decide)
theorem NodesAt.c3 : ∀ i, i < N → w.cell? ⟨g, i * 9 + 3, none⟩ = some (.bool (σ i).flip) := fun i hi => h.cell (f := 3) hi (by decide)
theorem NodesAt.c4 : ∀ i, i < N → w.cell? ⟨g, i * 9 + 4, none⟩ = some (.int .i64 (σ i).key) := fun i hi => h.cell (f := 4) hi (by decide)
theorem NodesAt.c5 : ∀ i, i < N → w.cell? ⟨g, i * 9 + 5, none⟩ = some (.int .i64 (σ i).size) := fun i hi => h.cell (f := 5) hi (by decide)
theorem NodesAt.c6 : ∀ i, i < N → w.cell? ⟨g, i * 9 + 6, none⟩ = some (.int .i64 (σ i).first) := fun i hi => h.cell (f := 6) hi (by decide)
theorem NodesAt.c7 : ∀ i, i < N → w.cell? ⟨g, i * 9 + 7, none⟩ = some (.int .i64 (σ i).light) := fun i hi => h.cell (f := 7) hi (by decide)
theorem NodesAt.c8 : ∀ i, i < N → w.cell? ⟨g, i * 9 + 8, none⟩ = some (.int .i64 (σ i).total) := fun i hi => h.cell (f := 8) hi (by decide)
end
structure LctAt (w : World) (pf g N : Nat) (cap : Nat) (σ : Tbl) (edges : Int) : Prop where
  hd : Blk w pf 194 [.pointer (some ⟨pf, 0, none⟩), .slice (some ⟨g, 0, none⟩) N cap, .int .i64 edges]
  nodes : NodesAt w g N σ
  ne : pf ≠ g
  le : N ≤ 65537
  cap : N ≤ cap
def beforeB (σ : Tbl) (i j : Nat) : Bool := decide ((σ i).key < (σ j).key) || (decide ((σ i).key = (σ j).key) && decide (i < j))
set_option maxRecDepth 10000
set_option maxHeartbeats 400000
theorem before_w {w : World} {pf g N cap : Nat} {σ : Tbl} {ed : Int} (h : LctAt w pf g N cap σ ed) (i j : Nat) (hi : i < N) (hj : j < N) :
    Calls Tryz.prog 203 #[.pointer (some ⟨pf, 0, none⟩), .int .i64 i, .int .i64 j] w fun e w' => e = .returned (.bool (beforeB σ i j)) ∧ ∃ n, w' = w.drewN n := by
 have c1 := h.hd.cell 1
 simp only [List.getElem?_cons_zero, List.getElem?_cons_succ] at c1
 have ci := h.nodes.c4 i hi
 have cj := h.nodes.c4 j hj
 have hN := h.le
 have hi2 : (i : Int) < N := by omega
 have hj2 : (j : Int) < N := by omega
 by_cases h1 : (σ i).key < (σ j).key
 {
 have d1 : decide ((σ i).key < (σ j).key) = true := decide_eq_true h1
 have hr : beforeB σ i j = true := by simp [beforeB, h1]
 rw [hr]; clear hr
 go_enter Tryz.func203, Tryz.ntmps203
 go_wp2
 go_quiet (fail)
 go_wp2
 go_ret
 exact ⟨rfl, _, rfl⟩
 }
 {
 have d1 : decide ((σ i).key < (σ j).key) = false := decide_eq_false h1
 by_cases h2 : (σ i).key = (σ j).key
 {
 have d2 : ((σ i).key == (σ j).key) = true := beq_iff_eq.2 h2
 have hr : beforeB σ i j = decide (i < j) := by simp [beforeB, h2]
 rw [hr]; clear hr
 have H2 := Lib.hid h2; clear h2
 by_cases h3 : i < j
 {
 have d3 : decide ((i : Int) < (j : Int)) = true := decide_eq_true (by omega)
 have d4 : decide (i < j) = true := decide_eq_true h3
 rw [d4]; clear d4
 go_enter Tryz.func203, Tryz.ntmps203
 go_wp2
 go_quiet (fail)
 go_wp2
 go_ret
 exact ⟨rfl, _, rfl⟩
 }
 {
 have d3 : decide ((i : Int) < (j : Int)) = false := decide_eq_false (by omega)
 have d4 : decide (i < j) = false := decide_eq_false h3
 rw [d4]; clear d4
 go_enter Tryz.func203, Tryz.ntmps203
 go_wp2
 go_quiet (fail)
 go_wp2
 go_ret
 exact ⟨rfl, _, rfl⟩
 }
 }
 {
 have d2 : ((σ i).key == (σ j).key) = false := beq_eq_false_iff_ne.2 h2
 have hr : beforeB σ i j = false := by simp [beforeB, h1, h2]
 rw [hr]; clear hr
 have H2 := Lib.hid h2; clear h2
 go_enter Tryz.func203, Tryz.ntmps203
 go_wp2
 go_quiet (fail)
 go_wp2
 go_ret
 exact ⟨rfl, _, rfl⟩
 }
 }
end Go.Proofs.YtgmnemndjjmgkaaGreat

namespace Go.Proofs.YtgmnemndjjmgkaaGreat
open Go.RowKit
def refKid (σ : Tbl) (i k : Nat) : Tbl :=
  if k = 0 then σ else
    let σ1 := σ.upd i { σ i with size := wrap64 ((σ i).size + (σ k).size) }
    let σ2 := σ1.upd i { σ1 i with total := wrap64 ((σ1 i).total + (σ1 k).total) }
    if beforeB σ2 (σ2 k).first (σ2 i).first then σ2.upd i { σ2 i with first := (σ2 k).first } else σ2
def ref0 (σ : Tbl) (i : Nat) : Tbl := σ.upd i { σ i with size := 1, first := i, total := wrap64 (1 + (σ i).light) }
def refT (σ : Tbl) (i : Nat) : Nat → Tbl
  | 0 => ref0 σ i
  | 1 => refKid (ref0 σ i) i (σ i).k0
  | _ => refKid (refKid (ref0 σ i) i (σ i).k0) i (σ i).k1
def refresh (σ : Tbl) (i : Nat) : Tbl := refT σ i 2
theorem upd_same (σ : Tbl) (i : Nat) (n : Nd) : σ.upd i n i = n := by simp [Tbl.upd]
theorem upd_other {σ : Tbl} {i j : Nat} {n : Nd} (h : j ≠ i) : σ.upd i n j = σ j := by simp [Tbl.upd, h]
def InR (N : Nat) (σ : Tbl) : Prop := ∀ i, i < N → (σ i).k0 < N ∧ (σ i).k1 < N ∧ (σ i).up < N ∧ (σ i).first < N
theorem refKid_other {σ : Tbl} {i k j : Nat} (h : j ≠ i) : refKid σ i k j = σ j := by
 unfold refKid
 by_cases hk : k = 0
 · rw [if_pos hk]
 · rw [if_neg hk]; dsimp only; split <;> simp [upd_other h]
theorem refKid_links {σ : Tbl} {i k j : Nat} : (refKid σ i k j).k0 = (σ j).k0 ∧ (refKid σ i k j).k1 = (σ j).k1 ∧ (refKid σ i k j).up = (σ j).up ∧ (refKid σ i k j).flip = (σ j).flip ∧ (refKid σ i k j).key = (σ j).key ∧ (refKid σ i k j).light = (σ j).light := by
 by_cases h : j = i
 {
 subst h
 unfold refKid
 by_cases hk : k = 0
 · rw [if_pos hk]; simp
 · rw [if_neg hk]; dsimp only; split <;> simp [upd_same]
 }
 · rw [refKid_other h]; simp
theorem refKid_inR {N : Nat} {σ : Tbl} {i k : Nat} (h : InR N σ) (hi : i < N) (hk : k < N) (hki : k ≠ i) : InR N (refKid σ i k) := by
 intro j hj
 obtain ⟨a, b, c, _⟩ := @refKid_links σ i k j
 rw [a, b, c]
 refine ⟨(h j hj).1, (h j hj).2.1, (h j hj).2.2.1, ?_⟩
 by_cases e : j = i
 {
 subst e
 unfold refKid
 by_cases hk0 : k = 0
 · rw [if_pos hk0]; exact (h j hj).2.2.2
 {
 rw [if_neg hk0]; dsimp only; split
 · simp [upd_same, upd_other hki]; exact (h k hk).2.2.2
 · simp [upd_same]; exact (h j hj).2.2.2
 }
 }
 · rw [refKid_other e]; exact (h j hj).2.2.2
theorem ref0_inR {N : Nat} {σ : Tbl} {i : Nat} (h : InR N σ) (hi : i < N) : InR N (ref0 σ i) := by
 intro j hj
 by_cases e : j = i
 · subst e; simp only [ref0, upd_same]; exact ⟨(h j hj).1, (h j hj).2.1, (h j hj).2.2.1, hi⟩
 · simp only [ref0, upd_other e]; exact h j hj
theorem refT_inR {N : Nat} {σ : Tbl} {i : Nat} (h : InR N σ) (hi : i < N) (h0 : (σ i).k0 ≠ i) (h1 : (σ i).k1 ≠ i) (t : Nat) : InR N (refT σ i t) := by
 match t with
 | 0 => exact ref0_inR h hi
 | 1 => exact refKid_inR (ref0_inR h hi) hi (h i hi).1 h0
 | t + 2 => exact refKid_inR (refKid_inR (ref0_inR h hi) hi (h i hi).1 h0) hi (h i hi).2.1 h1
theorem LctAt.store {w w0 : World} {pf g N cap : Nat} {σ : Tbl} {ed : Int} (h : LctAt w pf g N cap σ ed) (hF : Fr [g] w0 w) {i f : Nat} (hi : i < N) (hf : f < 9) (n : Nd) (v : Value) (hv : fv n f = v) (ho : ∀ f', f' < 9 → f' ≠ f → fv n f' = fv (σ i) f') :
    LctAt (w.setCell ⟨g, i * 9 + f, none⟩ v) pf g N cap (σ.upd i n) ed ∧ Fr [g] w0 (w.setCell ⟨g, i * 9 + f, none⟩ v) :=
  ⟨⟨h.hd.other _ _ h.ne, h.nodes.store hi hf n v hv ho, h.ne, h.le, h.cap⟩, hF.setCell _ _ (.inl (by simp))⟩
theorem LctAt.eqv {w w' : World} {pf g N cap : Nat} {σ : Tbl} {ed : Int} (h : LctAt w pf g N cap σ ed) (e : Eqv w' w) : LctAt w' pf g N cap σ ed :=
  ⟨e.blk h.hd, h.nodes.eqv e, h.ne, h.le, h.cap⟩
section
variable {w w0 : World} {pf g N cap : Nat} {σ : Tbl} {ed : Int} (h : LctAt w pf g N cap σ ed) (hF : Fr [g] w0 w) {i : Nat} (hi : i < N)
include h hF hi
theorem LctAt.st0 (x : Nat) : LctAt (w.setCell ⟨g, i * 9, none⟩ (.int .i64 x)) pf g N cap (σ.upd i { σ i with k0 := x }) ed ∧ Fr [g] w0 (w.setCell ⟨g, i * 9, none⟩ (.int .i64 x)) :=
  h.store hF hi (f := 0) (by decide) _ _ rfl (by intro f' h1 h2; match f', h1, h2 with | 1, _, _ => rfl | 2, _, _ => rfl | 3, _, _ => rfl | 4, _, _ => rfl | 5, _, _ => rfl | 6, _, _ => rfl | 7, _, _ => rfl | _ + 8, _, _ => rfl)
theorem LctAt.st1 (x : Nat) : LctAt (w.setCell ⟨g, i * 9 + 1, none⟩ (.int .i64 x)) pf g N cap (σ.upd i { σ i with k1 := x }) ed ∧ Fr [g] w0 (w.setCell ⟨g, i * 9 + 1, none⟩ (.int .i64 x)) :=
  h.store hF hi (f := 1) (by decide) _ _ rfl (by intro f' h1 h2; match f', h1, h2 with | 0, _, _ => rfl | 2, _, _ => rfl | 3, _, _ => rfl | 4, _, _ => rfl | 5, _, _ => rfl | 6, _, _ => rfl | 7, _, _ => rfl | _ + 8, _, _ => rfl)
theorem LctAt.st2 (x : Nat) : LctAt (w.setCell ⟨g, i * 9 + 2, none⟩ (.int .i64 x)) pf g N cap (σ.upd i { σ i with up := x }) ed ∧ Fr [g] w0 (w.setCell ⟨g, i * 9 + 2, none⟩ (.int .i64 x)) :=
  h.store hF hi (f := 2) (by decide) _ _ rfl (by intro f' h1 h2; match f', h1, h2 with | 0, _, _ => rfl | 1, _, _ => rfl | 3, _, _ => rfl | 4, _, _ => rfl | 5, _, _ => rfl | 6, _, _ => rfl | 7, _, _ => rfl | _ + 8, _, _ => rfl)
theorem LctAt.st3 (x : Bool) : LctAt (w.setCell ⟨g, i * 9 + 3, none⟩ (.bool x)) pf g N cap (σ.upd i { σ i with flip := x }) ed ∧ Fr [g] w0 (w.setCell ⟨g, i * 9 + 3, none⟩ (.bool x)) :=
  h.store hF hi (f := 3) (by decide) _ _ rfl (by intro f' h1 h2; match f', h1, h2 with | 0, _, _ => rfl | 1, _, _ => rfl | 2, _, _ => rfl | 4, _, _ => rfl | 5, _, _ => rfl | 6, _, _ => rfl | 7, _, _ => rfl | _ + 8, _, _ => rfl)
theorem LctAt.st4 (x : Int) : LctAt (w.setCell ⟨g, i * 9 + 4, none⟩ (.int .i64 x)) pf g N cap (σ.upd i { σ i with key := x }) ed ∧ Fr [g] w0 (w.setCell ⟨g, i * 9 + 4, none⟩ (.int .i64 x)) :=
  h.store hF hi (f := 4) (by decide) _ _ rfl (by intro f' h1 h2; match f', h1, h2 with | 0, _, _ => rfl | 1, _, _ => rfl | 2, _, _ => rfl | 3, _, _ => rfl | 5, _, _ => rfl | 6, _, _ => rfl | 7, _, _ => rfl | _ + 8, _, _ => rfl)
theorem LctAt.st5 (x : Int) : LctAt (w.setCell ⟨g, i * 9 + 5, none⟩ (.int .i64 x)) pf g N cap (σ.upd i { σ i with size := x }) ed ∧ Fr [g] w0 (w.setCell ⟨g, i * 9 + 5, none⟩ (.int .i64 x)) :=
  h.store hF hi (f := 5) (by decide) _ _ rfl (by intro f' h1 h2; match f', h1, h2 with | 0, _, _ => rfl | 1, _, _ => rfl | 2, _, _ => rfl | 3, _, _ => rfl | 4, _, _ => rfl | 6, _, _ => rfl | 7, _, _ => rfl | _ + 8, _, _ => rfl)
theorem LctAt.st6 (x : Nat) : LctAt (w.setCell ⟨g, i * 9 + 6, none⟩ (.int .i64 x)) pf g N cap (σ.upd i { σ i with first := x }) ed ∧ Fr [g] w0 (w.setCell ⟨g, i * 9 + 6, none⟩ (.int .i64 x)) :=
  h.store hF hi (f := 6) (by decide) _ _ rfl (by intro f' h1 h2; match f', h1, h2 with | 0, _, _ => rfl | 1, _, _ => rfl | 2, _, _ => rfl | 3, _, _ => rfl | 4, _, _ => rfl | 5, _, _ => rfl | 7, _, _ => rfl | _ + 8, _, _ => rfl)
theorem LctAt.st7 (x : Int) : LctAt (w.setCell ⟨g, i * 9 + 7, none⟩ (.int .i64 x)) pf g N cap (σ.upd i { σ i with light := x }) ed ∧ Fr [g] w0 (w.setCell ⟨g, i * 9 + 7, none⟩ (.int .i64 x)) :=
  h.store hF hi (f := 7) (by decide) _ _ rfl (by intro f' h1 h2; match f', h1, h2 with | 0, _, _ => rfl | 1, _, _ => rfl | 2, _, _ => rfl | 3, _, _ => rfl | 4, _, _ => rfl | 5, _, _ => rfl | 6, _, _ => rfl | _ + 8, _, _ => rfl)
theorem LctAt.st8 (x : Int) : LctAt (w.setCell ⟨g, i * 9 + 8, none⟩ (.int .i64 x)) pf g N cap (σ.upd i { σ i with total := x }) ed ∧ Fr [g] w0 (w.setCell ⟨g, i * 9 + 8, none⟩ (.int .i64 x)) :=
  h.store hF hi (f := 8) (by decide) _ _ rfl (by intro f' h1 h2; match f', h1, h2 with | 0, _, _ => rfl | 1, _, _ => rfl | 2, _, _ => rfl | 3, _, _ => rfl | 4, _, _ => rfl | 5, _, _ => rfl | 6, _, _ => rfl | 7, _, _ => rfl | m + 8, h1, h2 => exact absurd (show m + 8 = 8 by omega) h2)
end
set_option maxRecDepth 10000
set_option maxHeartbeats 400000
theorem idx_kids0 (x y : Value) (w : World) : (Instr.index 189 (.agg #[x, y]) (.int .i64 0)).run Tryz.prog w = .ok x w := by kernel_rfl
theorem idx_kids1 (x y : Value) (w : World) : (Instr.index 189 (.agg #[x, y]) (.int .i64 1)).run Tryz.prog w = .ok y w := by kernel_rfl
theorem ref0_mem {w : World} {pf g N cap : Nat} {σ : Tbl} {ed : Int} (h : LctAt w pf g N cap σ ed) {i : Nat} (hi : i < N) :
    LctAt (((w.setCell ⟨g, i * 9 + 5, none⟩ (.int .i64 1)).setCell ⟨g, i * 9 + 6, none⟩ (.int .i64 i)).setCell ⟨g, i * 9 + 8, none⟩ (.int .i64 (wrap64 (1 + (σ i).light)))) pf g N cap (ref0 σ i) ed ∧
      Fr [g] w (((w.setCell ⟨g, i * 9 + 5, none⟩ (.int .i64 1)).setCell ⟨g, i * 9 + 6, none⟩ (.int .i64 i)).setCell ⟨g, i * 9 + 8, none⟩ (.int .i64 (wrap64 (1 + (σ i).light)))) := by
 obtain ⟨h1, f1⟩ := h.st5 (Fr.refl _ _) hi 1
 obtain ⟨h2, f2⟩ := h1.st6 f1 hi i
 obtain ⟨h3, f3⟩ := h2.st8 f2 hi (wrap64 (1 + (σ i).light))
 refine ⟨⟨h3.hd, h3.nodes.congr ?_, h3.ne, h3.le, h3.cap⟩, f3⟩
 intro j _
 by_cases e : j = i
 · subst e; simp [ref0, upd_same]
 · simp [ref0, upd_other e]
theorem iw64 (n : Int) : IntKind.i64.wrap n = wrap64 n := by rw [IntKind.wrap_i64]; unfold wrap64; omega
theorem refresh_w {w : World} {pf g N cap : Nat} {σ : Tbl} {ed : Int} (h : LctAt w pf g N cap σ ed) (i : Nat) (hi : i < N) (hR : InR N σ) (h0 : (σ i).k0 ≠ i) (h1 : (σ i).k1 ≠ i) :
    Calls Tryz.prog 174 #[.pointer (some ⟨pf, 0, none⟩), .int .i64 i] w fun e w' => e = .returned (.tuple #[]) ∧ LctAt w' pf g N cap (refresh σ i) ed ∧ Fr [g] w w' := by
 have c1 := h.hd.cell 1
 simp only [List.getElem?_cons_zero, List.getElem?_cons_succ] at c1
 have hN := h.le
 have a0 := h.nodes.c0 i hi
 have a1 := h.nodes.c1 i hi
 have a5 := h.nodes.c5 i hi
 have a6 := h.nodes.c6 i hi
 have a7 := h.nodes.c7 i hi
 have a8 := h.nodes.c8 i hi
 have hfz := h.nodes.frozen
 have hi2 : (i : Int) < N := by omega
 obtain ⟨hm0, hf0⟩ := ref0_mem h hi
 have HR := Lib.hid hR; clear hR
 have H0 := Lib.hid h0; clear h0
 have H1 := Lib.hid h1; clear h1
 go_enter Tryz.func174, Tryz.ntmps174
 go_wp2
 generalize hW : (((w.setCell ⟨g, i * 9 + 5, none⟩ (.int .i64 1)).setCell ⟨g, i * 9 + 6, none⟩ (.int .i64 i)).setCell ⟨g, i * 9 + 8, none⟩ (.int .i64 (wrap64 (1 + (σ i).light)))) = W0 at *
 clear hW a0 a1 a5 a6 a7 a8 hfz c1
 go_loopw [33] (fun x wr => ∃ t : Nat, t ≤ 2 ∧ x = .int .i64 t ∧ LctAt wr pf g N cap (refT σ i t) ed ∧ Fr [g] w wr) (fun x _ => 2 - (intOf x).toNat)
 case atStart => exact ⟨0, by omega, rfl, hm0, hf0⟩
 case round =>
  clear hm0 hf0
  obtain ⟨t, ht, rfl, hL, hF⟩ := hrel
  by_cases hlt : t < 2
  {
  have hInR := refT_inR HR.out hi H0.out H1.out t
  obtain ⟨k, hix, hkN, hki, hnx⟩ : ∃ k : Nat, (∀ W : World, (Instr.index 189 (.agg #[.int .i64 (σ i).k0, .int .i64 (σ i).k1]) (.int .i64 t)).run Tryz.prog W = .ok (.int .i64 k) W) ∧ k < N ∧ k ≠ i ∧ refT σ i (t + 1) = refKid (refT σ i t) i k := by {
  rcases (show t = 0 ∨ t = 1 by omega) with rfl | rfl
  · exact ⟨(σ i).k0, fun W => idx_kids0 _ _ W, (HR.out i hi).1, H0.out, rfl⟩
  · exact ⟨(σ i).k1, fun W => idx_kids1 _ _ W, (HR.out i hi).2.1, H1.out, rfl⟩
  }
  have Hnx := Lib.hid hnx; clear hnx
  have HIn := Lib.hid hInR; clear hInR
  generalize refT σ i t = τ at *
  by_cases hk0 : k = 0
  {
  subst hk0
  go_wp2
  go_roundw
  case rel => exact ⟨t + 1, by omega, by go_num, by rw [Hnx.out]; exact hL, hF⟩
  case measure => simp [intOf]; omega
  }
  {
  have hb0 : ((k : Int) == 0) = false := beq_eq_false_iff_ne.2 (by omega)
  have hk2 : (k : Int) < N := by omega
  have c1 := hL.hd.cell 1
  simp only [List.getElem?_cons_zero, List.getElem?_cons_succ] at c1
  have a5 := hL.nodes.c5 i hi
  have b5 := hL.nodes.c5 k hkN
  have hfz := hL.nodes.frozen
  go_wp2
  refine region_one 11 (fun w' => LctAt w' pf g N cap (τ.upd i { τ i with size := wrap64 ((τ i).size + (τ k).size) }) ed ∧ Fr [g] w w') (by kernel_rfl) (by kernel_rfl) (by kernel_rfl) ?_
  iterate 11 (refine gWalk_pre (by decide) (fun K hK => ?_); go_simp; refine hK _ ?_; clear hK K)
  refine gWalk_write rfl undef (fun w' hw' => ?_) ?_
  {
  obtain ⟨nq, rfl⟩ := hw'
  go_simp
  rw [iw64]
  exact (hL.eqv (Eqv.drewN wr nq)).st5 (hF.drewN nq) hi _
  }
  refine gWalk_nil ?_
  rintro w2 ⟨hL2, hF2⟩
  have hk1 : τ.upd i { τ i with size := wrap64 ((τ i).size + (τ k).size) } k = τ k := upd_other hki
  have c1' := hL2.hd.cell 1
  simp only [List.getElem?_cons_zero, List.getElem?_cons_succ] at c1'
  have a8 := hL2.nodes.c8 i hi
  have b8 := hL2.nodes.c8 k hkN
  rw [hk1] at b8
  rw [upd_same] at a8
  have hfz2 := hL2.nodes.frozen
  clear a5 b5 hfz c1 hk1
  go_wp2
  refine region_one 11 (fun w' => LctAt w' pf g N cap ((τ.upd i { τ i with size := wrap64 ((τ i).size + (τ k).size) }).upd i { τ i with size := wrap64 ((τ i).size + (τ k).size), total := wrap64 ((τ i).total + (τ k).total) }) ed ∧ Fr [g] w w') (by kernel_rfl) (by kernel_rfl) (by kernel_rfl) ?_
  iterate 11 (refine gWalk_pre (by decide) (fun K hK => ?_); go_simp; refine hK _ ?_; clear hK K)
  refine gWalk_write rfl undef (fun w' hw' => ?_) ?_
  {
  obtain ⟨nq, rfl⟩ := hw'
  go_simp
  have := (hL2.eqv (Eqv.drewN w2 nq)).st8 (hF2.drewN nq) hi (wrap64 ((τ i).total + (τ k).total))
  rw [upd_same] at this
  rw [iw64]
  exact this
  }
  refine gWalk_nil ?_
  rintro w3 ⟨hL3, hF3⟩
  clear a8 b8 hfz2 c1' hL hL2 hF hF2
  have hns : refKid τ i k = if beforeB ((τ.upd i { τ i with size := wrap64 ((τ i).size + (τ k).size) }).upd i { τ i with size := wrap64 ((τ i).size + (τ k).size), total := wrap64 ((τ i).total + (τ k).total) }) (τ k).first (τ i).first then ((τ.upd i { τ i with size := wrap64 ((τ i).size + (τ k).size) }).upd i { τ i with size := wrap64 ((τ i).size + (τ k).size), total := wrap64 ((τ i).total + (τ k).total) }).upd i { τ i with size := wrap64 ((τ i).size + (τ k).size), total := wrap64 ((τ i).total + (τ k).total), first := (τ k).first } else ((τ.upd i { τ i with size := wrap64 ((τ i).size + (τ k).size) }).upd i { τ i with size := wrap64 ((τ i).size + (τ k).size), total := wrap64 ((τ i).total + (τ k).total) }) := by {
  unfold refKid
  rw [if_neg hk0]
  simp only [upd_same, upd_other hki]
  }
  have Hns := Lib.hid hns; clear hns
  have c6 := hL3.nodes.c6 i hi
  have d6 := hL3.nodes.c6 k hkN
  have hk1 : ((τ.upd i { τ i with size := wrap64 ((τ i).size + (τ k).size) }).upd i { τ i with size := wrap64 ((τ i).size + (τ k).size), total := wrap64 ((τ i).total + (τ k).total) }) k = τ k := by rw [upd_other hki, upd_other hki]
  have hi1 : ((τ.upd i { τ i with size := wrap64 ((τ i).size + (τ k).size) }).upd i { τ i with size := wrap64 ((τ i).size + (τ k).size), total := wrap64 ((τ i).total + (τ k).total) }) i = { τ i with size := wrap64 ((τ i).size + (τ k).size), total := wrap64 ((τ i).total + (τ k).total) } := upd_same _ _ _
  rw [hi1] at c6
  rw [hk1] at d6
  have hst := fun nq : Nat => (hL3.eqv (Eqv.drewN w3 nq)).st6 (hF3.drewN nq) hi (τ k).first
  rw [hi1] at hst
  generalize ((τ.upd i { τ i with size := wrap64 ((τ i).size + (τ k).size) }).upd i { τ i with size := wrap64 ((τ i).size + (τ k).size), total := wrap64 ((τ i).total + (τ k).total) }) = τ2 at *
  have hbf := fun W (hW : LctAt W pf g N cap τ2 ed) => before_w hW (τ k).first (τ i).first (HIn.out k hkN).2.2.2 (HIn.out i hi).2.2.2
  have Hbf := Lib.hid hbf; clear hbf hk1 hi1
  have hfz3 := hL3.nodes.frozen
  have Hst := Lib.hid hst; clear hst
  dsimp only at c6
  cases hB : beforeB τ2 (τ k).first (τ i).first with
  | true => {
  rw [hB] at Hbf Hns
  clear hB
  go_wp2
  go_quiet ((go_at_call 203; exact Calls.quiet_of (Hbf.out _ (hL3.eqv (Eqv.drewN _ _)))))
  go_wp2
  exact ⟨⟨t + 1, by omega, by go_num, by rw [Hnx.out, Hns.out, if_pos trivial]; exact (Hst.out nq).1, (Hst.out nq).2⟩, by simp [intOf]; omega⟩
  }
  | false => {
  rw [hB] at Hbf Hns
  clear hB
  go_wp2
  go_quiet ((go_at_call 203; exact Calls.quiet_of (Hbf.out _ (hL3.eqv (Eqv.drewN _ _)))))
  go_wp2
  exact ⟨⟨t + 1, by omega, by go_num, by rw [Hnx.out, Hns.out, if_neg (by decide)]; exact hL3.eqv (Eqv.drewN w3 nq), hF3.drewN nq⟩, by simp [intOf]; omega⟩
  }
  }
  }
  {
  obtain rfl : t = 2 := by omega
  go_wp2
  go_end0
  exact ⟨rfl, hL, hF⟩
  }
end Go.Proofs.YtgmnemndjjmgkaaGreat
