/- The statement 'StoreVertices': for every input the call returns true, and each argument reads afterwards as it read before. -/
import Derived.Test.YtbegdgnhpklceaaB15
import Derived.Test.YtbegdgnhpklceaaB1
set_option linter.unusedSimpArgs false
set_option linter.unusedVariables false
/- StoreVertices: the walk. -/
namespace Go.Proofs.Ytbegdgnhpklceaa
open Go.RowKit
set_option maxRecDepth 10000
set_option maxHeartbeats 1600000

/-- A row of Booleans. -/
def bRow (n : Nat) (f : Nat → Bool) : List Value := (List.range n).map fun i => .bool (f i)
theorem bRow_len (n : Nat) (f : Nat → Bool) : (bRow n f).length = n := by simp [bRow]
theorem bRow_at {n : Nat} (f : Nat → Bool) {i : Nat} (h : i < n) : (bRow n f)[i]? = some (.bool (f i)) := by simp [bRow, h]
theorem bRow_set {n : Nat} {f f' : Nat → Bool} {i : Nat} (x : Bool) (hf : ∀ k, f' k = if k = i then x else f k) : (bRow n f).set i (.bool x) = bRow n f' := by
  refine List.ext_getElem? fun k => ?_
  rw [List.getElem?_set]
  by_cases hk : i = k
  · subst hk
    by_cases hl : i < n
    · rw [if_pos rfl, if_pos (by rw [bRow_len]; exact hl), bRow_at _ hl, hf, if_pos rfl]
    · rw [if_pos rfl, if_neg (by rw [bRow_len]; exact hl), List.getElem?_eq_none (by rw [bRow_len]; omega)]
  · rw [if_neg hk]
    by_cases hl : k < n
    · rw [bRow_at _ hl, bRow_at _ hl, hf, if_neg (fun e => hk e.symm)]
    · rw [List.getElem?_eq_none (by rw [bRow_len]; omega), List.getElem?_eq_none (by rw [bRow_len]; omega)]
theorem Try.info4 : (Try.prog.info? 4).map (fun i => (i.zero, i.size, i.bytes)) = some (some (.bool false), 1, 1) := by kernel_rfl
theorem made_bools (n : Nat) : madeCells (Value.bool false).cells n = (bRow n fun _ => false).toArray := by
  apply Array.ext
  · simp [madeCells, bRow]
  · intro i h1 h2
    simp [madeCells, bRow, Value.cells, Nat.mod_one]
theorem run_make10 (w : World) : (Instr.makeSlice 43 (.int .i64 10) (.int .i64 10)).run Try.prog w = .ok (.slice (some ⟨w.heap.size, 0, none⟩) 10 10) (w.alloc (.cells (bRow 10 fun _ => false).toArray 4)) := by
  obtain ⟨i0, hi, hz0, hz1, hz2⟩ := info_parts Try.info4
  have h := run_make (P := Try.prog) w 43 4 i0 (.bool false) Try.underlying43 hi hz0 .i64 .i64 10 10 (by omega) (by omega) (by rw [hz2]; omega) (by omega)
  rw [hz1] at h
  rw [made_bools] at h
  exact h

def seenF (s : Sm) (d i : Nat) : Bool := (List.range d).any fun id => s.M.find id == some i
def sumL (L : List Lv) : Nat → Nat
  | 0 => 0
  | d + 1 => sumL L d + (incL L d).length
def cntE (e : Lv) : Nat → Nat
  | 0 => 0
  | d + 1 => cntE e d + if e.at d = true then 1 else 0
theorem sumL_cons (e : Lv) (r : List Lv) : ∀ n, sumL (e :: r) n = cntE e n + sumL r n
  | 0 => rfl
  | n + 1 => by
    have ih := sumL_cons e r n
    show sumL (e :: r) n + (incL (e :: r) n).length = cntE e n + _ + (sumL r n + (incL r n).length)
    have : (incL (e :: r) n).length = (if e.at n = true then 1 else 0) + (incL r n).length := by
      unfold incL
      cases h : e.at n <;> simp [List.filter_cons, h]; omega
    omega
theorem cntE_eq {e : Lv} (hne : e.u ≠ e.v) : ∀ n, cntE e n = (if e.u < n then 1 else 0) + if e.v < n then 1 else 0
  | 0 => by simp [cntE]
  | n + 1 => by
    show cntE e n + _ = _
    rw [cntE_eq hne n]
    have hat : e.at n = true ↔ e.u = n ∨ e.v = n := by simp [Lv.at]
    by_cases h0 : e.at n = true
    · rw [if_pos h0]
      have := hat.1 h0
      repeat' split
      all_goals omega
    · rw [if_neg h0]
      have : ¬ (e.u = n ∨ e.v = n) := fun h => h0 (hat.2 h)
      repeat' split
      all_goals omega
theorem sum_total : ∀ {L : List Lv}, (∀ e ∈ L, e.u < 16 ∧ e.v < 16) → (∀ e ∈ L, e.u ≠ e.v) → sumL L 16 = 2 * L.length
  | [], _, _ => rfl
  | e :: r, hb, hn => by
    rw [sumL_cons, cntE_eq (hn e (List.mem_cons_self ..)), sum_total (fun x hx => hb x (List.mem_cons_of_mem _ hx)) (fun x hx => hn x (List.mem_cons_of_mem _ hx))]
    have := hb e (List.mem_cons_self ..)
    rw [if_pos this.1, if_pos this.2, List.length_cons]; omega
theorem sumL_le (L : List Lv) (n : Nat) : sumL L n ≤ n * L.length := by
  induction n with
  | zero => simp [sumL]
  | succ n ih =>
    have := incL_len L n
    show sumL L n + _ ≤ _
    rw [Nat.add_mul]; omega
theorem idsN_prefix (L : List Lv) (d : Nat) : ∀ k, ∃ r, idsN L (d + k) = idsN L d ++ r
  | 0 => ⟨[], by simp⟩
  | k + 1 => by
    obtain ⟨r, hr⟩ := idsN_prefix L d k
    refine ⟨r ++ if L.any (fun e => e.at (d + k)) = true then [d + k] else [], ?_⟩
    rw [show d + (k + 1) = d + k + 1 by omega, idsN_succ, hr, List.append_assoc]
theorem want_yes {L : List Lv} {d : Nat} (hd : d < 16) (ha : L.any (fun e => e.at d) = true) : (idsOf L)[(idsN L d).length]? = some d := by
  obtain ⟨r, hr⟩ := idsN_prefix L (d + 1) (16 - (d + 1))
  have h2 := idsN_succ L d
  rw [if_pos ha] at h2
  rw [show d + 1 + (16 - (d + 1)) = 16 by omega, h2] at hr
  show (idsN L 16)[_]? = _
  rw [hr, List.append_assoc, List.getElem?_append_right (Nat.le_refl _)]
  simp
theorem want_no {L : List Lv} {d x k : Nat} (ha : L.any (fun e => e.at d) = false) (hx : (idsOf L)[k]? = some x) : x ≠ d := by
  intro e
  subst e
  obtain ⟨_, e, he, hat⟩ := mem_idsN.1 (show x ∈ idsN L 16 from List.mem_of_getElem? hx)
  have := List.any_eq_false.1 ha e he
  exact this hat
theorem want_le (L : List Lv) {d : Nat} (hd : d ≤ 16) : (idsN L d).length ≤ (idsOf L).length := by
  obtain ⟨r, hr⟩ := idsN_prefix L d (16 - d)
  rw [show d + (16 - d) = 16 by omega] at hr
  show _ ≤ (idsN L 16).length
  rw [hr, List.length_append]; omega
def inN (L : List Lv) (d j : Nat) : Nat := (incL (L.take j) d).length
theorem inN_succ {L : List Lv} {d j : Nat} (hj : j < L.length) : inN L d (j + 1) = inN L d j + if (L[j]).at d = true then 1 else 0 := by
  unfold inN
  rw [List.take_add_one, List.getElem?_eq_getElem hj, Option.toList_some, incL_snoc, List.length_append]
  cases h : (L[j]).at d <;> simp
theorem inc_at {L : List Lv} {d j : Nat} (hj : j < L.length) (ha : (L[j]).at d = true) : (incL L d)[inN L d j]? = some (L[j]).slot := by
  have hL : L = (L.take j ++ [L[j]]) ++ L.drop (j + 1) := by
    rw [List.append_assoc, List.singleton_append, List.getElem_cons_drop, List.take_append_drop]
  have h2 : incL L d = (incL (L.take j) d ++ [(L[j]).slot]) ++ incL (L.drop (j + 1)) d := by
    conv => lhs; rw [hL]
    unfold incL
    rw [List.filter_append, List.filter_append, List.map_append, List.map_append]
    congr 2
    simp [List.filter_cons, ha]
  rw [h2, List.append_assoc]
  unfold inN
  rw [List.getElem?_append_right (Nat.le_refl _)]
  simp
section
variable {s : Sm}
theorem find_lt (h : s.Ok) {k : Nat} (hb : Bd s k) {id i : Nat} (hf : s.M.find id = some i) : i < 10 ∧ s.M.at i = some id := by
  have hm := Md.find_mem hf
  have hu := h.md.used _ hm
  have h1 := hu.1
  have h2 := h.md.ar.hb
  have h3 := h.ms
  have h4 := hb.V
  simp only [Md.ar] at h1 h2
  refine ⟨by omega, ?_⟩
  unfold Md.at
  rw [if_pos (by omega), Int.toNat_natCast]
  exact Md.mem_idOf h.md.idx hm
theorem at_find (h : s.Ok) {i id : Nat} (ha : s.M.at i = some id) : s.M.find id = some i := by
  unfold Md.at at ha
  rw [if_pos (by omega), Int.toNat_natCast] at ha
  exact (Md.find_iff h.md).2 (Md.idOf_mem ha)
theorem seen_no (h : s.Ok) {k : Nat} (hb : Bd s k) {d i : Nat} (hf : s.M.find d = some i) : seenF s d i = false := by
  unfold seenF
  rw [List.any_eq_false]
  intro id hid he
  rw [List.mem_range] at hid
  have h1 := (find_lt h hb (by simpa using he : s.M.find id = some i)).2
  have h2 := (find_lt h hb hf).2
  rw [h1] at h2
  simp at h2; omega
theorem seen_succ (d k : Nat) : seenF s (d + 1) k = (seenF s d k || s.M.find d == some k) := by
  unfold seenF
  rw [List.range_succ, List.any_append]; simp
theorem seen_all (h : s.Ok) {k : Nat} (hb : Bd s k) (i : Nat) : (s.M.at i).isSome = seenF s 16 i := by
  rw [Bool.eq_iff_iff, Option.isSome_iff_exists]
  unfold seenF
  rw [List.any_eq_true]
  constructor
  · rintro ⟨id, ha⟩
    have hf := at_find h ha
    refine ⟨id, ?_, by simp [hf]⟩
    have : (s.M.find id).isSome = true := by rw [hf]; rfl
    rw [find_any h] at this
    obtain ⟨e, he, hat⟩ := List.any_eq_true.1 this
    have := hb.id e he
    simp [Lv.at] at hat
    rw [List.mem_range]; omega
  · rintro ⟨id, _, he⟩
    exact ⟨id, (find_lt h hb (by simpa using he)).2⟩
end

theorem sg_incident' {W wr : World} {ps : Nat} {s : Sm} {Z : List Nat} (h : SG W wr ps s Z) (id : Nat) (hid : id < 18446744073709551616) : Calls Try.prog 21 #[sptr ps, .int .u64 id] wr fun e w' => ∃ v, e = .returned v ∧ RowI w' v (incL s.L id) ∧ (∀ q, v.ownBlock = some q → wr.heap.size ≤ q) ∧ Fr [] wr w' := by
  obtain ⟨K, h1, _⟩ := h
  exact st_incident h1 id hid
theorem walk_storeVertices (W : World) (a : Option Addr) (len cap : Nat) (z : Nat → Bool × Nat × Nat × Nat) (hz : MovesF W a len z) :
    Calls Try.prog 4 #[.slice a len cap] W fun e w' => e = .returned (.bool true) ∧ Below W.heap.size W w' := by
  have HM := Lib.hid (moved_w W a len cap z hz)
  have HWk := Lib.hid (fun w => works_w w)
  have hmk := run_make10
  clear hz
  go_enter Try.func4, Try.ntmps4
  go_wp2_with fail
  refine HM.out.mono ?_
  rintro _ w1 ⟨ps, s, v, rfl, hS, hr, hb⟩
  clear HM
  have hn := hb.len hS.ok
  have HOK := Lib.hid hS.ok
  have HBD := Lib.hid hb
  have HI := Lib.hid (ids_w hr (by omega))
  obtain ⟨av, cv, rfl⟩ := hr.slice
  have HR := Lib.hid (And.intro hS hr); clear hS hr hb
  go_wp2_with fail
  refine HI.out.mono ?_
  rintro _ w2 ⟨vw, rfl, hu2, hn2, hF2⟩
  obtain ⟨aw, cw, rfl⟩ := hu2.slice
  have hil : (idsOf s.L).length ≤ 16 := idsN_len _ _
  have hS2 := HR.out.1.row hF2 hn2 (fun q hq => hu2.lt hq)
  have hv := sg_verts hS2
  rw [mlen_ids HOK.out HBD.out.id] at hv
  have HV := Lib.hid hv
  have hii := sg_ids hS2
  rw [ids_of HOK.out HBD.out.id] at hii
  have HII := Lib.hid hii
  have H2 := Lib.hid (And.intro hS2 (And.intro (HR.out.2.fr0 hF2) hu2))
  clear hu2 hn2 hF2 hS2 hv hii HI HR
  go_wp2_with fail
  refine HV.out.mono ?_
  rintro _ w2 ⟨rfl, rfl⟩
  go_wp2_with fail
  refine HII.out.mono ?_
  rintro _ w3 ⟨v3, rfl, hu3, _, hF3⟩
  have hsm := sameIDs_w hu3 (H2.out.2.2.fr0 hF3) (by omega) (by omega)
  rw [decide_eq_true (rfl : idsOf s.L = idsOf s.L)] at hsm
  have HSm := Lib.hid hsm
  have HF3 := Lib.hid hF3
  clear hsm hu3 hF3 HV HII
  go_wp2_with fail
  refine HSm.out.mono ?_
  rintro _ w4 ⟨rfl, hF4⟩
  have HF4 := Lib.hid (HF3.out.trans' hF4)
  clear hF4 HF3 HSm
  have hF5 : Fr [] w2 (w4.alloc (.cells (bRow 10 fun _ => false).toArray 4)) := HF4.out.alloc _
  have hb5 : Blk (w4.alloc (.cells (bRow 10 fun _ => false).toArray 4)) w4.heap.size 4 (bRow 10 (seenF s 0)) := Blk.new w4 (bRow 10 fun _ => false) 4
  have hz5 : (w4.alloc (.cells (bRow 10 fun _ => false).toArray 4)).heap.size = w4.heap.size + 1 := by simp
  have hS5 := H2.out.1.go (Y := w4.heap.size :: ((Value.slice aw (idsOf s.L).length cw).ownBlock.toList ++ (Value.slice av s.L.length cv).ownBlock.toList)) hF5 (by simp) (fun y hy => (List.mem_cons.1 hy).elim (fun e => .inr ⟨by have := HF4.out.size; omega, by omega⟩) .inl)
  have H5 := Lib.hid (And.intro hS5 (And.intro (H2.out.2.1.fr0 hF5) (And.intro (H2.out.2.2.fr0 hF5) hb5)))
  have HSB := Lib.hid (And.intro (show ∀ q, (Value.slice av s.L.length cv).ownBlock = some q → q < w4.heap.size from fun q hq => Nat.lt_of_lt_of_le (H2.out.2.1.lt hq) HF4.out.size) (show ∀ q, (Value.slice aw (idsOf s.L).length cw).ownBlock = some q → q < w4.heap.size from fun q hq => Nat.lt_of_lt_of_le (H2.out.2.2.lt hq) HF4.out.size))
  clear hF5 hb5 hS5
  go_wp2_with fail
  clear hmk
  generalize w4.alloc (.cells (bRow 10 fun _ => false).toArray 4) = w5 at *
  go_loopw [8, 9, 10] (fun x y c wr => ∃ d : Nat, d ≤ 16 ∧ x = .int .i64 (sumL s.L d) ∧ y = .int .i64 (idsN s.L d).length ∧ c = .int .u64 d ∧ Hid (SG W wr ps s (w4.heap.size :: ((Value.slice aw (idsOf s.L).length cw).ownBlock.toList ++ (Value.slice av s.L.length cv).ownBlock.toList)) ∧ RowV wr (.slice av s.L.length cv) s.L ∧ RowU wr (.slice aw (idsOf s.L).length cw) (idsOf s.L) ∧ Blk wr w4.heap.size 4 (bRow 10 (seenF s d)))) (fun _ _ c _ => 16 - (intOf c).toNat)
  case atStart => exact ⟨0, by omega, rfl, rfl, rfl, H5⟩
  case round =>
    clear H5
    obtain ⟨d, hd, rfl, rfl, rfl, HR⟩ := hrel
    rename World => wr
    by_cases hlt : d < 16
    · have hdi : (d : Int) < 16 := by omega
      have hix := sg_index HR.out.1 d (by omega)
      have hsl := sumL_le s.L d
      have hkk := want_le s.L (show d ≤ 16 by omega)
      have hil0 := incL_len s.L d
      have hsm : d * s.L.length ≤ 16 * 20 := Nat.mul_le_mul (by omega) hn
      have hfa := find_any HOK.out d
      have hss := fun k => seen_succ (s := s) d k
      have hisu := idsN_succ s.L d
      have hsus : sumL s.L (d + 1) = sumL s.L d + (incL s.L d).length := rfl
      cases hf : s.M.find d with
      | none =>
        rw [hf] at hix hfa
        simp only [Option.getD_none, Option.isSome_none] at hix hfa
        have hinc : incL s.L d = [] := by
          by_cases e : incL s.L d = []
          · exact e
          · have := (HOK.out.vert d).2 e
            rw [hf] at this; cases this
        rw [← hfa, if_neg (by simp), List.append_nil] at hisu
        rw [hinc] at hsus
        have hse : ∀ k, seenF s (d + 1) k = seenF s d k := fun k => by rw [hss, hf]; simp
        have hwn : ∀ x, (idsOf s.L)[(idsN s.L d).length]? = some x → x ≠ d := fun x hx => want_no hfa.symm hx
        have HIX := Lib.hid hix
        have HP := Lib.hid (And.intro hisu (And.intro hsus hse))
        clear hix hfa hss hisu hsus hse hf
        go_wp2_with fail
        refine HIX.out.mono ?_
        rintro _ w6 ⟨rfl, _, hF6⟩
        have hic := sg_incident (HR.out.1.go0 hF6) d (by omega)
        rw [hinc] at hic
        have HIC := Lib.hid hic
        have HF6 := Lib.hid hF6
        clear hic hF6 HIX hinc
        go_wp2_with fail
        refine HIC.out.mono ?_
        rintro _ w7 ⟨v7, rfl, hr7, _, hF7⟩
        obtain ⟨a7, c7, rfl⟩ := hr7.slice
        have HF7 := Lib.hid (HF6.out.trans' hF7)
        clear hr7 hF7 HF6 HIC
        simp only [List.length_nil]
        by_cases hkl : (idsN s.L d).length = (idsOf s.L).length
        · have d1 : (((idsN s.L d).length : Int) == ((idsOf s.L).length : Int)) = true := by simp; omega
          clear hwn hkl
          go_wp2_with fail
          exact ⟨⟨d + 1, by omega, by rw [HP.out.2.1]; rfl, by rw [HP.out.1], by go_num, Lib.hid ⟨HR.out.1.go0 HF7.out, HR.out.2.1.fr0 HF7.out, HR.out.2.2.1.fr0 HF7.out, by rw [show bRow 10 (seenF s (d + 1)) = bRow 10 (seenF s d) from congrArg _ (funext HP.out.2.2)]; exact HF7.out.blk HR.out.2.2.2 (by simp)⟩⟩, by simp [intOf]; omega⟩
        · have hkl2 : (idsN s.L d).length < (idsOf s.L).length := by omega
          have d1 : (((idsN s.L d).length : Int) == ((idsOf s.L).length : Int)) = false := by simp; omega
          obtain ⟨bw, cw', ew, _, hcw⟩ := (HR.out.2.2.1.fr0 HF7.out).at hkl2
          simp only [Value.slice.injEq, true_and] at ew
          obtain ⟨rfl, rfl⟩ := ew
          have hxd := hwn _ (List.getElem?_eq_getElem hkl2)
          generalize (idsOf s.L)[(idsN s.L d).length]'hkl2 = x at *
          have d2 : ((x : Int) != (d : Int)) = true := by simp; omega
          have hki : ((idsN s.L d).length : Int) < (idsOf s.L).length := by omega
          clear hwn hkl hxd
          go_wp2_with fail
          exact ⟨⟨d + 1, by omega, by rw [HP.out.2.1]; rfl, by rw [HP.out.1], by go_num, Lib.hid ⟨HR.out.1.go0 HF7.out, HR.out.2.1.fr0 HF7.out, HR.out.2.2.1.fr0 HF7.out, by rw [show bRow 10 (seenF s (d + 1)) = bRow 10 (seenF s d) from congrArg _ (funext HP.out.2.2)]; exact HF7.out.blk HR.out.2.2.2 (by simp)⟩⟩, by simp [intOf]; omega⟩
      | some i =>
        rw [hf] at hix hfa
        simp only [Option.getD_some, Option.isSome_some] at hix hfa
        obtain ⟨hi10, hat⟩ := find_lt HOK.out HBD.out hf
        have hsn := seen_no HOK.out HBD.out hf
        rw [← hfa, if_pos rfl] at hisu
        have hse : ∀ k, seenF s (d + 1) k = if k = i then true else seenF s d k := fun k => by
          rw [hss, hf]
          by_cases e : k = i
          · subst e; simp
          · have e2 : (some i == some k) = false := by simp; omega
            rw [if_neg e, e2, Bool.or_false]
        have hwy := want_yes hlt hfa.symm
        have HIX := Lib.hid hix
        have HP := Lib.hid (And.intro hisu (And.intro hsus (And.intro hse (And.intro hat hsn))))
        clear hix hfa hss hisu hsus hse hf hat hsn
        obtain ⟨hkl2, hwk⟩ := List.getElem?_eq_some_iff.1 hwy
        go_wp2_with fail
        refine HIX.out.mono ?_
        rintro _ w6 ⟨rfl, _, hF6⟩
        have HIC := Lib.hid (sg_incident' (HR.out.1.go0 hF6) d (by omega))
        have hsb6 : w4.heap.size < w6.heap.size := Nat.lt_of_lt_of_le (HR.out.1.lt w4.heap.size (List.mem_cons_self ..)) hF6.size
        have HF6 := Lib.hid hF6
        clear hF6 HIX
        go_wp2_with fail
        refine HIC.out.mono ?_
        rintro _ w7 ⟨v7, rfl, hr7, hw7, hF7⟩
        obtain ⟨a7, c7, rfl⟩ := hr7.slice
        have hn7 : ∀ q, (Value.slice a7 (incL s.L d).length c7).ownBlock = some q → w4.heap.size ≠ q := fun q hq e => by have := hw7 q hq; omega
        have HF7 := Lib.hid (HF6.out.trans' hF7)
        have HV7 := Lib.hid (And.intro hr7 hn7)
        clear hr7 hF7 HF6 HIC hw7 hn7
        obtain ⟨bw, cw', ew, _, hcw⟩ := (HR.out.2.2.1.fr0 HF7.out).at hkl2
        simp only [Value.slice.injEq, true_and] at ew
        obtain ⟨rfl, rfl⟩ := ew
        rw [hwk] at hcw
        have d1 : (((idsN s.L d).length : Int) == ((idsOf s.L).length : Int)) = false := by simp; omega
        have hki : ((idsN s.L d).length : Int) < (idsOf s.L).length := by omega
        have hb7 := HF7.out.blk HR.out.2.2.2 (by simp)
        have hcs := (hb7.cell i).trans (bRow_at (seenF s d) hi10)
        rw [HP.out.2.2.2.2] at hcs
        have hzs := hb7.frozen i
        have hi10i : (i : Int) < 10 := by omega
        have hi0 : (0 : Int) ≤ i := by omega
        clear hwy hwk hb7
        go_wp2_with fail
        have hF8 : Fr [w4.heap.size] w7 (w7.setCell ⟨w4.heap.size, i, none⟩ (.bool true)) := (Fr.refl _ w7).setCell ⟨w4.heap.size, i, none⟩ _ (.inl (by simp))
        have hS8 := (HR.out.1.go0 HF7.out).go (Y := w4.heap.size :: ((Value.slice (some ⟨bw, 0, none⟩) (idsOf s.L).length cw).ownBlock.toList ++ (Value.slice av s.L.length cv).ownBlock.toList)) hF8 (fun q hq => .inl (by rw [List.mem_singleton] at hq; rw [hq]; exact List.mem_cons_self ..)) (fun q hq => .inl hq)
        have hr8 := (HR.out.2.1.fr0 HF7.out).fr hF8 (fun q hq hm => by have := HSB.out.1 q hq; rw [List.mem_singleton] at hm; omega)
        have hu8 := (HR.out.2.2.1.fr0 HF7.out).fr hF8 (fun q hq hm => by have := HSB.out.2 q hq; rw [List.mem_singleton] at hm; omega)
        have hb8 := (HF7.out.blk HR.out.2.2.2 (by simp)).set i (.bool true)
        rw [bRow_set true HP.out.2.2.1] at hb8
        have hv8 := HV7.out.1.fr hF8 (fun q hq hm => HV7.out.2 q hq (by rw [List.mem_singleton] at hm; exact hm.symm))
        clear hcs hzs hcw hF8
        generalize w7.setCell ⟨w4.heap.size, i, none⟩ (.bool true) = w8 at *
        have hid := sg_id hS8 i
        rw [HP.out.2.2.2.1] at hid
        simp only [Option.getD_some, Option.isSome_some] at hid
        have HID := Lib.hid hid
        have H8 := Lib.hid (And.intro hS8 (And.intro hr8 (And.intro hu8 (And.intro hb8 hv8))))
        clear hid hS8 hr8 hu8 hb8 hv8
        refine HID.out.mono ?_
        rintro _ w8 ⟨rfl, rfl⟩
        clear HID
        go_wp2_with fail
        go_loopw [16, 17] (fun x y wq => ∃ j : Nat, j ≤ s.L.length ∧ x = .int .i64 (inN s.L d j) ∧ y = .int .i64 j ∧ Hid (Fr [] w8 wq)) (fun _ y _ => s.L.length - (intOf y).toNat)
        case atStart => exact ⟨0, Nat.zero_le _, by simp [inN, incL], rfl, Lib.hid (Fr.refl _ _)⟩
        case round =>
          obtain ⟨j, hj, rfl, rfl, HQ⟩ := hrel
          rename World => wq
          by_cases hjl : j < s.L.length
          · have hji : (j : Int) < s.L.length := by omega
            obtain ⟨bv, cv', ev, _, _, _, hat⟩ := (H8.out.2.1.fr0 HQ.out).at hjl
            simp only [Value.slice.injEq, true_and] at ev
            obtain ⟨rfl, rfl⟩ := ev
            have hns := inN_succ (L := s.L) (d := d) hjl
            have hia := fun h => inc_at (L := s.L) (d := d) hjl h
            generalize s.L[j]'hjl = e at *
            have x0 := hat.1
            have x2 := hat.2.2.1
            have x3 := hat.2.2.2.1
            clear hat
            cases hea : e.at d with
            | false =>
              rw [hea, if_neg (by simp), Nat.add_zero] at hns
              have hea' := hea
              simp only [Lv.at, Bool.or_eq_false_iff, beq_eq_false_iff_ne] at hea'
              have g1 : ((e.u : Int) == (d : Int)) = false := by simp; omega
              have g2 : ((e.v : Int) == (d : Int)) = false := by simp; omega
              have HNS := Lib.hid hns
              clear hea hea' hns hia
              go_wp2_with fail
              exact ⟨⟨j + 1, by omega, by rw [HNS.out]; rfl, by go_num, HQ⟩, by simp [intOf]; omega⟩
            | true =>
              rw [hea, if_pos rfl] at hns
              obtain ⟨hil7, hi7⟩ := List.getElem?_eq_some_iff.1 (hia hea)
              obtain ⟨b7, cc7, e7, _, hc7⟩ := (H8.out.2.2.2.2.fr0 HQ.out).at hil7
              simp only [Value.slice.injEq, true_and] at e7
              obtain ⟨rfl, rfl⟩ := e7
              rw [hi7] at hc7
              have HNS := Lib.hid hns
              have hle7 : (incL s.L d).length ≤ 20 := by omega
              have h7i : (inN s.L d j : Int) < (incL s.L d).length := by omega
              have hcase : (e.u : Int) = d ∨ (¬ (e.u : Int) = d ∧ (e.v : Int) = d) := by
                simp only [Lv.at, Bool.or_eq_true, beq_iff_eq] at hea
                omega
              clear hea hns hia hi7
              generalize inN s.L d j = nn at *
              rcases hcase with h1 | ⟨h1, h2⟩
              · go_wp2_with fail
                go_quiet (fail)
                go_wp2_with fail
                exact ⟨⟨j + 1, by omega, by rw [HNS.out]; go_num, by go_num, Lib.hid (HQ.out.trans' (Fr.of_drewN _ _))⟩, by simp [intOf]; omega⟩
              · go_wp2_with fail
                go_quiet (fail)
                go_wp2_with fail
                exact ⟨⟨j + 1, by omega, by rw [HNS.out]; go_num, by go_num, Lib.hid (HQ.out.trans' (Fr.of_drewN _ _))⟩, by simp [intOf]; omega⟩
          · obtain rfl : j = s.L.length := by omega
            have hie : inN s.L d s.L.length = (incL s.L d).length := by unfold inN; rw [List.take_length]
            rw [hie]
            have hle7 : (incL s.L d).length ≤ 20 := by omega
            have hle8 : sumL s.L d ≤ 320 := by omega
            have hle9 : (idsN s.L d).length ≤ 16 := by omega
            clear hie
            go_wp2_with fail
            exact ⟨⟨d + 1, by omega, by rw [HP.out.2.1]; go_num, by rw [HP.out.1, List.length_append]; go_num, by go_num, Lib.hid ⟨H8.out.1.go0 HQ.out, H8.out.2.1.fr0 HQ.out, H8.out.2.2.1.fr0 HQ.out, HQ.out.blk H8.out.2.2.2.1 (by simp)⟩⟩, by simp [intOf]; omega⟩
    · obtain rfl : d = 16 := by omega
      have e16 : ((16 : Nat) : Int) = 16 := rfl
      rw [e16]
      clear e16
      have hst := sum_total HBD.out.id HOK.out.ne
      have HST := Lib.hid hst
      clear hst hd hlt
      go_wp2_with fail
      go_loopw [18] (fun x wq => wr = wq ∧ ∃ i : Nat, i ≤ 10 ∧ x = .int .i64 i) (fun x _ => 10 - (intOf x).toNat)
      case atStart => exact ⟨rfl, 0, by omega, rfl⟩
      case round =>
        obtain ⟨rfl, i, hi, rfl⟩ := hrel
        by_cases hil2 : i < 10
        · have hii : (i : Int) < 10 := by omega
          have hid := sg_id HR.out.1 i
          rw [seen_all HOK.out HBD.out i] at hid
          have hcs := (HR.out.2.2.2.cell i).trans (bRow_at (seenF s 16) hil2)
          generalize seenF s 16 i = bb at *
          generalize (s.M.at i).getD 0 = xx at *
          have HID := Lib.hid hid
          have hbb : (bb != bb) = false := by simp
          clear hid
          go_wp2_with fail
          refine HID.out.mono ?_
          rintro _ wr ⟨rfl, rfl⟩
          go_wp2_with fail
          exact ⟨⟨trivial, i + 1, by omega, by go_num⟩, by simp [intOf]; omega⟩
        · obtain rfl : i = 10 := by omega
          have HLn := Lib.hid (sg_len HR.out.1)
          have hw2 : IntKind.i64.wrap (2 * (s.L.length : Int)) = ((sumL s.L 16 : Nat) : Int) := by
            rw [HST.out]
            simp [IntKind.wrap, IntKind.bits, IntKind.signed]; omega
          go_wp2_with fail
          refine HLn.out.mono ?_
          rintro _ wr ⟨rfl, rfl⟩
          go_wp2_with fail
          refine (HWk.out _).mono ?_
          rintro _ w9 ⟨rfl, hF9⟩
          have HF9 := Lib.hid (HR.out.1.go0 hF9); clear hF9
          go_wp2_with fail
          go_ret
          exact ⟨rfl, HF9.out.below⟩
end Go.Proofs.Ytbegdgnhpklceaa

namespace Go.Proofs.Ytbegdgnhpklceaa.storeVertices
open Go.ChangeShapes Go.WideShapes Go.ChangeAt Go.RowKit
set_option linter.unusedVariables false

theorem own : ownKnob Try.prog.godebug = none := by kernel_rfl
theorem laidOut : laidOutB Try.prog = true := by kernel_rfl

set_option maxRecDepth 100000 in
theorem lifted (os : Os) (started : os.Started) (H : Type) (enc : TypeId × Value → H) :
    ReturnsInHanded {} Try.checked os 4 .any (Rows.storeVerticesSpec.pre6 enc Try.prog Try.f4 Rows.storeVerticesRow.domain false) (Rows.storeVerticesSpec.post enc Try.prog Try.f4 false true false false) := by
  refine returnsInHanded_of_change (C := Try.checked) own started (by kernel_rfl) Try.func4
    (ChangeSpec.witness6 (enc := enc) (C := Try.checked) false ⟨#[], #[.slice none 0 0], []⟩ 8 (by kernel_rfl) (by kernel_rfl) (by kernel_rfl) (by kernel_rfl)) ?_
  intro W base args ds gs before hval0 hW hcnd _
  have hval : ∀ (j : Nat) t v, Try.f4.params[j]? = some t → args[j]? = some v → Value.okWide Try.prog W .any base t v := hval0
  have hW' := hW
  obtain ⟨p, q, hA0, hV, rfl, hfz, hnd⟩ := hW
  have hA : DataW.TrodAll enc Try.prog W 0 (fun _ => true) true Try.f4.params.toList args.toList ds p := hA0
  rw [Try.params4] at hA hval
  obtain ⟨v0, vs0, d0, ds0, p0, q0, hargs, rfl, rfl, h0, r0⟩ := trodAll_cons hA
  obtain ⟨rfl, rfl, rfl⟩ := trodAll_nil r0
  obtain rfl : args = #[v0] := by cases args; simp_all
  obtain ⟨rfl, rfl⟩ := trodVars_none hV
  obtain ⟨a0, len0, cap0, rfl⟩ := okWide_slice Try.underlying22 (hval 0 22 v0 rfl rfl)
  have k0 := h0
  have lt0 : ∀ x ∈ p0, x.block < W.heap.size := by obtain ⟨m, hm⟩ := k0; exact DataW.trod_lt m _ _ _ hm
  obtain ⟨z0, w0⟩ := open_moves h0
  clear hA0 hval0
  refine (walk_storeVertices W a0 len0 cap0 z0 w0).mono fun e W' ⟨he, bel⟩ => ?_
  subst he
  exact ⟨_, rfl, _, _, _, [], _, [], hW', trodAll_mk1 (shut_bool Try.underlying4 _), (trodAll_cons_mk (Below.trod laidOut (by kernel_rfl) (of_decide_eq_true (by kernel_rfl)) k0 bel lt0) trodAll_mk0), rfl, bel.frame _, fun h => by cases h⟩

theorem over : Rows.storeVerticesRow.holds Try.pinned (OpenSpec.ofChange Rows.storeVerticesSpec) :=
  OpenClaim.holds_of_wide 4 Try.f4 rfl rfl rfl rfl rfl rfl rfl ⟨rfl, rfl, rfl, rfl, rfl⟩ rfl rfl rfl rfl rfl (by kernel_rfl) Try.func4 (by kernel_rfl)
    (of_decide_eq_true (by kernel_rfl)) (by unfold Func.isWrapper; first | (rw [if_pos (by decide +kernel)]; kernel_rfl) | (rw [if_neg (by decide +kernel)]; exact ⟨rfl, rfl⟩))
    (fun os started H enc _ => lifted os started H enc)

end Go.Proofs.Ytbegdgnhpklceaa.storeVertices

namespace Go.Proofs.Ytbegdgnhpklceaa
theorem storeVertices_holds : Rows.StoreVerticesSaid := storeVertices.over
#print axioms storeVertices_holds
end Go.Proofs.Ytbegdgnhpklceaa
