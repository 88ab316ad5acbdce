/- The statement 'StoreEmpties': for every input the call returns true, and each argument reads afterwards as it read before. -/
import Derived.Test.YtbegdgnhpklceaaB15
import Derived.Test.YtbegdgnhpklceaaB1
set_option linter.unusedSimpArgs false
set_option linter.unusedVariables false
/- StoreKeeps: the walk. -/
namespace Go.Proofs.Ytbegdgnhpklceaa
open Go.RowKit
set_option maxRecDepth 10000
set_option maxHeartbeats 1600000

/-- How many of the first m slots from -1 on are in use. -/
def foundN (s : Sm) : Nat → Nat
  | 0 => 0
  | m + 1 => foundN s m + if s.has ((m : Int) - 1) = true then 1 else 0
theorem foundN_filter (s : Sm) : ∀ m, foundN s m = ((List.range m).filter fun j : Nat => s.has ((j : Int) - 1)).length
  | 0 => rfl
  | m + 1 => by
    rw [List.range_succ, List.filter_append, List.length_append, ← foundN_filter s m]
    show foundN s m + _ = _
    cases h : s.has ((m : Int) - 1) <;> simp [h]
theorem foundN_all {s : Sm} (h : s.Ok) (hE : s.E = 20) : foundN s 22 = s.L.length := by
  rw [foundN_filter]
  have hp : ((List.range 22).filter fun j : Nat => s.has ((j : Int) - 1)).Perm ((s.L.map (·.slot)).map (· + 1)) := by
    refine (List.perm_ext_iff_of_nodup (List.nodup_range.filter _) ?_).2 fun j => ?_
    · exact List.pairwise_map.2 (h.one.imp fun hab e => hab (by omega))
    · rw [List.mem_filter, List.mem_range, List.map_map, List.mem_map]
      constructor
      · rintro ⟨_, hj⟩
        obtain ⟨h0, hu⟩ := (Sm.has_iff h _).1 hj
        obtain ⟨e, he, hs⟩ := (h.used _).1 hu
        exact ⟨e, he, by simp only [Function.comp]; omega⟩
      · rintro ⟨e, he, rfl⟩
        have hu := (h.used _).2 ⟨e, he, rfl⟩
        have h1 := hu.1
        have h2 := h.ar.hb
        have h3 := h.sl
        simp only [Function.comp]
        refine ⟨by omega, (Sm.has_iff h _).2 ⟨by omega, ?_⟩⟩
        rw [show ((e.slot + 1 : Nat) : Int) - 1 = (e.slot : Int) by omega, Int.toNat_natCast]
        exact hu
  have := hp.length_eq
  rw [List.length_map, List.length_map] at this
  exact this
theorem has_mem {s : Sm} (h : s.Ok) {e : Lv} (he : e ∈ s.L) : s.has e.slot = true ∧ s.got e.slot = e := by
  refine ⟨(Sm.has_iff h _).2 ⟨by omega, (h.used _).2 ⟨e, he, by simp⟩⟩, ?_⟩
  unfold Sm.got
  rw [if_pos (by omega), Int.toNat_natCast]
  exact liveAt_mem h.one he

theorem walk_storeKeeps (W : World) (a : Option Addr) (len cap : Nat) (z : Nat → Bool × Nat × Nat × Nat) (hz : MovesF W a len z) :
    Calls Try.prog 3 #[.slice a len cap] W fun e w' => e = .returned (.bool true) ∧ Below W.heap.size W w' := by
  have HM := Lib.hid (moved_w W a len cap z hz)
  have HWk := Lib.hid (fun w => works_w w)
  clear hz
  go_enter Try.func3, Try.ntmps3
  go_wp2_with fail
  refine HM.out.mono ?_
  rintro _ w1 ⟨ps, s, v, rfl, hS, hr, hb⟩
  clear HM
  have hn := hb.len hS.ok
  obtain ⟨av, cv, rfl⟩ := hr.slice
  have HL := Lib.hid (sg_len hS)
  have HLi := Lib.hid (sg_list hS)
  have HR := Lib.hid (And.intro hr hb); clear hS hr hb
  go_wp2_with fail
  refine HL.out.mono ?_
  rintro _ w1 ⟨rfl, rfl⟩
  clear HL
  go_wp2_with fail
  refine HLi.out.mono ?_
  rintro _ w2 ⟨v2, rfl, hr2, hS2, hF2⟩
  have hsm := same_w hr2 (HR.out.1.fr0 hF2) (by omega) (by omega)
  rw [decide_eq_true (rfl : s.L = s.L)] at hsm
  have HSm := Lib.hid hsm
  have HX := Lib.hid (And.intro (hS2.sub (Y := (Value.slice av s.L.length cv).ownBlock.toList) (fun y hy => List.mem_append.2 (.inr hy))) (And.intro (HR.out.1.fr0 hF2) HR.out.2))
  clear HLi hsm hr2 hS2 hF2 HR
  go_wp2_with fail
  refine HSm.out.mono ?_
  rintro _ w3 ⟨rfl, hF3⟩
  have HY := Lib.hid (And.intro (HX.out.1.go0 hF3) (And.intro (HX.out.2.1.fr0 hF3) HX.out.2.2))
  clear HX HSm hF3
  go_wp2_with fail
  go_loopw [6] (fun i wr => ∃ k : Nat, k ≤ s.L.length ∧ i = .int .i64 k ∧ Hid (SG W wr ps s (Value.slice av s.L.length cv).ownBlock.toList ∧ RowV wr (.slice av s.L.length cv) s.L)) (fun i _ => s.L.length - (intOf i).toNat)
  case atStart => exact ⟨0, Nat.zero_le _, rfl, Lib.hid ⟨HY.out.1, HY.out.2.1⟩⟩
  case round =>
    obtain ⟨k, hk, rfl, HR⟩ := hrel
    rename World => wr
    by_cases hlt : k < s.L.length
    · have hki : (k : Int) < s.L.length := by omega
      obtain ⟨b, cv', ev, _, hbl, _, hat⟩ := HR.out.2.at hlt
      simp only [Value.slice.injEq, true_and] at ev
      obtain ⟨rfl, rfl⟩ := ev
      obtain ⟨e, he⟩ : ∃ e, e = s.L[k] := ⟨_, rfl⟩
      rw [← he] at hat
      have hem := has_mem HR.out.1.ok (e := e) (by rw [he]; exact List.getElem_mem hlt)
      have HG := Lib.hid (sg_get HR.out.1 e.slot)
      rw [hem.1, hem.2] at HG
      clear he hem
      have x0 := hat.1
      go_wp2_with fail
      refine HG.out.mono ?_
      rintro _ w5 ⟨rfl, hS5, hF5⟩
      clear HG x0
      have hf6 : Fr [] w5 (w5.alloc (.cells #[.int .i64 e.slot, .int .u64 e.seq, .int .u64 e.u, .int .u64 e.v, .int .i64 e.wt, .int .i64 e.t, .int .i64 e.x] 34)) := (Fr.refl [] w5).alloc _
      obtain ⟨x0, x1, x2, x3, x4, x5, x6⟩ := (hat.fr hF5 (by simp)).fr hf6 (by simp)
      have HS6 := Lib.hid (And.intro (hS5.go0 hf6) ((HR.out.2.fr0 hF5).fr0 hf6))
      have hbb : b ≠ w5.heap.size := by have := hF5.size; omega
      have hee : lvEq e e = true := decide_eq_true rfl
      clear hat hS5 hF5 hf6
      go_wp2_with fail
      go_quiet (fail)
      go_wp2_with fail
      exact ⟨⟨k + 1, by omega, by go_num, Lib.hid ⟨HS6.out.1.go0 (Fr.of_drewN _ _), HS6.out.2.fr0 (Fr.of_drewN _ _)⟩⟩, by simp [intOf]; omega⟩
    · obtain rfl : k = s.L.length := by omega
      have HS := Lib.hid HR.out.1
      clear HR hlt
      go_wp2_with fail
      go_loopw [9, 10] (fun f i wr => ∃ m : Nat, m ≤ 22 ∧ i = .int .i64 ((m : Int) - 1) ∧ f = .int .i64 (foundN s m) ∧ Hid (SG W wr ps s (Value.slice av s.L.length cv).ownBlock.toList)) (fun _ i _ => (21 - intOf i).toNat)
      case atStart => exact ⟨0, by omega, rfl, rfl, HS⟩
      case round =>
        clear HS
        obtain ⟨m, hm, rfl, rfl, HS⟩ := hrel
        rename World => wq
        by_cases hml : m < 22
        · have hmi : (m : Int) - 1 ≤ 20 := by omega
          have HG := Lib.hid (sg_get HS.out ((m : Int) - 1))
          have hfm : foundN s (m + 1) = foundN s m + if s.has ((m : Int) - 1) = true then 1 else 0 := rfl
          have hfl : foundN s m ≤ m := by rw [foundN_filter]; exact Nat.le_trans (List.length_filter_le _ _) (by simp)
          generalize s.has ((m : Int) - 1) = yes at *
          generalize s.got ((m : Int) - 1) = e at *
          have HFM := Lib.hid hfm; clear hfm
          go_wp2_with fail
          refine HG.out.mono ?_
          rintro _ w5 ⟨rfl, hS5, hF5⟩
          have HS5 := Lib.hid hS5; clear hS5 hF5 HG
          cases yes with
          | true =>
            rw [if_pos rfl] at HFM
            go_wp2_with fail
            exact ⟨⟨m + 1, by omega, by go_num, by rw [HFM.out]; go_num, Lib.hid ((HS5.out.alloc _).sub (fun y hy => List.mem_cons_of_mem _ hy))⟩, by simp [intOf]; omega⟩
          | false =>
            rw [if_neg (by simp)] at HFM
            go_wp2_with fail
            exact ⟨⟨m + 1, by omega, by go_num, by rw [HFM.out]; rfl, Lib.hid ((HS5.out.alloc _).sub (fun y hy => List.mem_cons_of_mem _ hy))⟩, by simp [intOf]; omega⟩
        · obtain rfl : m = 22 := by omega
          have hfa := foundN_all HS.out.ok HY.out.2.2.E
          rw [hfa]
          clear hfa hml hm
          go_wp2_with fail
          refine (HWk.out _).mono ?_
          rintro _ w9 ⟨rfl, hF9⟩
          have HF9 := Lib.hid (HS.out.go0 hF9); clear hF9
          go_wp2_with fail
          go_ret
          exact ⟨rfl, HF9.out.below⟩
end Go.Proofs.Ytbegdgnhpklceaa

/- StoreEmpties: the walk. -/
namespace Go.Proofs.Ytbegdgnhpklceaa
open Go.RowKit
set_option maxRecDepth 10000
set_option maxHeartbeats 1600000

/-- The edges left behind k removals. -/
def leftL (back : Bool) (L : List Lv) (k : Nat) : List Lv := if back = true then L.take (L.length - k) else L.drop k
def leftI (back : Bool) (n k : Nat) : Nat := if back = true then n - 1 - k else k
theorem left_zero (back : Bool) (L : List Lv) : leftL back L 0 = L := by cases back <;> simp [leftL]
theorem left_all (back : Bool) (L : List Lv) : leftL back L L.length = [] := by cases back <;> simp [leftL]
theorem left_lt {back : Bool} {n k : Nat} (h : k < n) : leftI back n k < n := by
  unfold leftI; split <;> omega
theorem left_sub {back : Bool} {L : List Lv} {k : Nat} : ∀ e ∈ leftL back L k, e ∈ L := by
  intro e he
  unfold leftL at he
  split at he
  · exact List.mem_of_mem_take he
  · exact List.mem_of_mem_drop he
theorem left_step {back : Bool} {L : List Lv} (hn : (L.map (·.slot)).Nodup) {k : Nat} (hk : k < L.length) :
    (L[leftI back L.length k]'(left_lt hk)) ∈ leftL back L k ∧ ((leftL back L k).filter fun e => e.slot != (L[leftI back L.length k]'(left_lt hk)).slot) = leftL back L (k + 1) := by
  cases back with
  | true =>
    have e1 : leftI true L.length k = L.length - 1 - k := rfl
    have e2 : leftL true L k = L.take (L.length - k) := rfl
    have e3 : leftL true L (k + 1) = L.take (L.length - (k + 1)) := rfl
    have hlen : (L.take (L.length - k)).length = L.length - k := by rw [List.length_take]; omega
    have hj : L.length - 1 - k < (L.take (L.length - k)).length := by omega
    have hge : (L.take (L.length - k))[L.length - 1 - k]'hj = L[L.length - 1 - k]'(by omega) := by simp
    have hf := filter_at (L := L.take (L.length - k)) ((List.Sublist.map _ (List.take_sublist _ _)).nodup hn) hj
    rw [hge] at hf
    refine ⟨?_, ?_⟩
    · simp only [e1, e2]
      rw [← hge]; exact List.getElem_mem hj
    · simp only [e1, e2, e3]
      rw [hf, List.take_take, List.drop_eq_nil_of_le (by omega), List.append_nil]
      congr 1; omega
  | false =>
    have e1 : leftI false L.length k = k := rfl
    have e2 : leftL false L k = L.drop k := rfl
    have e3 : leftL false L (k + 1) = L.drop (k + 1) := rfl
    have hj : 0 < (L.drop k).length := by simp; omega
    have hge : (L.drop k)[0]'hj = L[k] := by simp
    have hf := filter_at (L := L.drop k) ((List.Sublist.map _ (List.drop_sublist _ _)).nodup hn) hj
    rw [hge] at hf
    refine ⟨?_, ?_⟩
    · simp only [e1, e2]
      rw [← hge]; exact List.getElem_mem hj
    · simp only [e1, e2, e3]
      rw [hf, List.take_zero, List.nil_append, List.drop_drop]
/-- The edges of a store can be put in again. -/
theorem again_chk {s s' : Sm} (h : s.Ok) (h' : s'.Ok) {k k' : Nat} (hb : Bd s k) (hb' : Bd s' k') {i : Nat} (hi : i < s.L.length) (he : endsOf s'.L = endsOf (s.L.take i)) : s'.chk (s.L[i]).u (s.L[i]).v = 0 := by
  have hm := List.getElem_mem hi
  have h1 := hb.id _ hm
  have hne := h.ne _ hm
  rw [chk_of h' hb' h1.1 h1.2, if_neg hne]
  have hl : s'.L.length = i := by
    have := congrArg List.length he
    simp only [endsOf, List.length_map, List.length_take] at this
    omega
  have hn := hb.len h
  rw [hl, if_neg (by omega)]
  have he2 : endsOf (s'.L ++ [s.L[i]]) = endsOf (s.L.take (i + 1)) := by
    rw [List.take_add_one, List.getElem?_eq_getElem hi]
    unfold endsOf at *
    rw [List.map_append, List.map_append, he]
    rfl
  have h3 : idsOf (s'.L ++ [s.L[i]]) = idsOf (s.L.take (i + 1)) := idsN_ends he2 16
  rw [h3]
  have h4 := idsN_take s.L (i + 1) 16
  have h5 := mlen_ids h hb.id
  have h6 : s.M.L.length ≤ 10 := by
    have h7 := h.md.cnt; have h8 := h.md.ar.hb; have h9 := h.ms; have h10 := hb.V
    simp only [Md.ar] at h8
    omega
  unfold idsOf at *
  rw [if_neg (by omega)]
theorem verts_none {s : Sm} (h : s.Ok) (hL : s.L = []) : s.M.L.length = 0 ∧ (∀ id, (s.M.find id).isSome = false) ∧ s.ids = [] := by
  have h1 : ∀ id, (s.M.find id).isSome = false := fun id => by rw [find_any h, hL]; rfl
  have h2 : s.M.L = [] := by
    cases hm : s.M.L with
    | nil => rfl
    | cons a r =>
      have := h1 a.1
      rw [(Md.find_iff h.md).2 (show (a.1, a.2) ∈ s.M.L by rw [hm]; exact List.mem_cons_self ..)] at this
      cases this
  refine ⟨by rw [h2]; rfl, h1, ?_⟩
  unfold Sm.ids
  rw [h2]; simp [sortN]

theorem walk_storeEmpties (W : World) (a : Option Addr) (len cap : Nat) (z : Nat → Bool × Nat × Nat × Nat) (hz : MovesF W a len z) (back : Bool) :
    Calls Try.prog 7 #[.slice a len cap, .bool back] W fun e w' => e = .returned (.bool true) ∧ Below W.heap.size W w' := by
  have HM := Lib.hid (moved_w W a len cap z hz)
  have HWk := Lib.hid (fun w => works_w w)
  clear hz
  go_enter Try.func7, Try.ntmps7
  go_wp2_with fail
  refine HM.out.mono ?_
  rintro _ w1 ⟨ps, s, v, rfl, hS, hr, hb⟩
  clear HM
  have hn := hb.len hS.ok
  obtain ⟨av, cv, rfl⟩ := hr.slice
  have HOK := Lib.hid hS.ok
  have HBD := Lib.hid hb
  have HR := Lib.hid (And.intro hS hr); clear hS hr hb
  go_wp2_with fail
  go_loopw [8] (fun i wr => ∃ (k : Nat) (s' : Sm), k ≤ s.L.length ∧ i = .int .i64 k ∧ Hid (SG W wr ps s' (Value.slice av s.L.length cv).ownBlock.toList ∧ RowV wr (.slice av s.L.length cv) s.L ∧ Bd s' 200 ∧ s'.L = leftL back s.L k)) (fun i _ => s.L.length - (intOf i).toNat)
  case atStart => exact ⟨0, s, Nat.zero_le _, rfl, Lib.hid ⟨HR.out.1, HR.out.2, HBD.out, (left_zero back s.L).symm⟩⟩
  case round =>
    clear HR
    obtain ⟨k, s', hk, rfl, HR⟩ := hrel
    rename World => wr
    by_cases hlt : k < s.L.length
    · have hki : (k : Int) < s.L.length := by omega
      obtain ⟨i, hil, hst, hidx, hidx2⟩ : ∃ i, ∃ hi : i < s.L.length, ((s.L[i]'hi) ∈ leftL back s.L k ∧ ((leftL back s.L k).filter fun e => e.slot != (s.L[i]'hi).slot) = leftL back s.L (k + 1)) ∧ (back = true → i = s.L.length - 1 - k) ∧ (back = false → i = k) :=
        ⟨leftI back s.L.length k, left_lt hlt, left_step HOK.out.one hlt, fun e => by rw [e]; rfl, fun e => by rw [e]; rfl⟩
      obtain ⟨b, cv', ev, _, hbl, _, hat⟩ := HR.out.2.1.at hil
      simp only [Value.slice.injEq, true_and] at ev
      obtain ⟨rfl, rfl⟩ := ev
      obtain ⟨e, he⟩ : ∃ e, e = s.L[i] := ⟨_, rfl⟩
      rw [← he] at hat hst
      have hem := has_mem HR.out.1.ok (e := e) (by rw [HR.out.2.2.2]; exact hst.1)
      have hrm := sg_rem HR.out.1 e.slot
      rw [hem.2, show s'.remC e.slot = 0 from if_pos hem.1, show s'.remS e.slot = s'.rem e.slot from if_pos hem.1] at hrm
      have hLL : (s'.rem e.slot).L = leftL back s.L (k + 1) := by
        show (s'.L.filter fun x => x.slot != e.slot) = _
        rw [HR.out.2.2.2]; exact hst.2
      have HRM := Lib.hid hrm
      have HLL := Lib.hid hLL
      have hii : (i : Int) < s.L.length := by omega
      clear hrm hLL hst hem he
      have x0 := hat.1
      have hwk : IntKind.i64.wrap ((s.L.length : Int) - 1) = (s.L.length : Int) - 1 := by simp [IntKind.wrap, IntKind.bits, IntKind.signed]; omega
      cases back with
      | true =>
        have hi2 := hidx rfl
        have hwi : IntKind.i64.wrap ((s.L.length : Int) - 1 - k) = (i : Int) := by simp [IntKind.wrap, IntKind.bits, IntKind.signed]; omega
        have hwi2 : (s.L.length : Int) - 1 - k = (i : Int) := by omega
        clear hidx hidx2 hi2
        go_wp2_with fail
        refine HRM.out.mono ?_
        rintro _ w5 ⟨rfl, hS5, hG5⟩
        clear HRM x0
        have hr5 := hG5.rowV HR.out.2.1 (fun q hq => by simpa using hq)
        have hf6 : Fr [] w5 (w5.alloc (.cells #[.int .i64 e.slot, .int .u64 e.seq, .int .u64 e.u, .int .u64 e.v, .int .i64 e.wt, .int .i64 e.t, .int .i64 e.x] 34)) := (Fr.refl [] w5).alloc _
        obtain ⟨X5, hX5, hbX⟩ := hG5
        obtain ⟨x0, x1, x2, x3, x4, x5, x6⟩ := (hat.fr hX5 (hbX b (by simp [Value.ownBlock]))).fr hf6 (by simp)
        have HS6 := Lib.hid (And.intro ((hS5.alloc _).sub (fun y hy => List.mem_cons_of_mem _ hy) : SG W (w5.alloc (.cells #[.int .i64 e.slot, .int .u64 e.seq, .int .u64 e.u, .int .u64 e.v, .int .i64 e.wt, .int .i64 e.t, .int .i64 e.x] 34)) ps (s'.rem e.slot) (Value.slice (some ⟨b, 0, none⟩) s.L.length cv).ownBlock.toList) (hr5.fr0 hf6))
        have hbb : b ≠ w5.heap.size := by have := hX5.size; omega
        have hee : lvEq e e = true := decide_eq_true rfl
        clear hat hS5 hX5 hbX hf6 hr5
        go_wp2_with fail
        go_quiet (fail)
        go_wp2_with fail
        exact ⟨⟨k + 1, s'.rem e.slot, by omega, by go_num, Lib.hid ⟨HS6.out.1.go0 (Fr.of_drewN _ _), HS6.out.2.fr0 (Fr.of_drewN _ _), HR.out.2.2.1.rem _, HLL.out⟩⟩, by simp [intOf]; omega⟩
      | false =>
        obtain rfl := hidx2 rfl
        clear hidx hidx2
        go_wp2_with fail
        refine HRM.out.mono ?_
        rintro _ w5 ⟨rfl, hS5, hG5⟩
        clear HRM x0
        have hr5 := hG5.rowV HR.out.2.1 (fun q hq => by simpa using hq)
        have hf6 : Fr [] w5 (w5.alloc (.cells #[.int .i64 e.slot, .int .u64 e.seq, .int .u64 e.u, .int .u64 e.v, .int .i64 e.wt, .int .i64 e.t, .int .i64 e.x] 34)) := (Fr.refl [] w5).alloc _
        obtain ⟨X5, hX5, hbX⟩ := hG5
        obtain ⟨x0, x1, x2, x3, x4, x5, x6⟩ := (hat.fr hX5 (hbX b (by simp [Value.ownBlock]))).fr hf6 (by simp)
        have HS6 := Lib.hid (And.intro ((hS5.alloc _).sub (fun y hy => List.mem_cons_of_mem _ hy) : SG W (w5.alloc (.cells #[.int .i64 e.slot, .int .u64 e.seq, .int .u64 e.u, .int .u64 e.v, .int .i64 e.wt, .int .i64 e.t, .int .i64 e.x] 34)) ps (s'.rem e.slot) (Value.slice (some ⟨b, 0, none⟩) s.L.length cv).ownBlock.toList) (hr5.fr0 hf6))
        have hbb : b ≠ w5.heap.size := by have := hX5.size; omega
        have hee : lvEq e e = true := decide_eq_true rfl
        clear hat hS5 hX5 hbX hf6 hr5
        go_wp2_with fail
        go_quiet (fail)
        go_wp2_with fail
        exact ⟨⟨i + 1, s'.rem e.slot, by omega, by go_num, Lib.hid ⟨HS6.out.1.go0 (Fr.of_drewN _ _), HS6.out.2.fr0 (Fr.of_drewN _ _), HR.out.2.2.1.rem _, HLL.out⟩⟩, by simp [intOf]; omega⟩
    · obtain rfl : k = s.L.length := by omega
      have hLn : s'.L = [] := by rw [HR.out.2.2.2]; exact left_all back s.L
      obtain ⟨hv1, hv2, hv3⟩ := verts_none HR.out.1.ok hLn
      have hsl := sg_len HR.out.1
      rw [hLn] at hsl
      have HSL := Lib.hid hsl
      have hsv := sg_verts HR.out.1
      rw [hv1] at hsv
      have HSV := Lib.hid hsv
      have hsi := sg_ids HR.out.1
      rw [hv3] at hsi
      have HSI := Lib.hid hsi
      have hrow := HR.out.2.1
      have HE := Lib.hid (And.intro HR.out.2.2.1 (And.intro hLn hv2))
      have HG := Lib.hid HR.out.1
      have HRW := Lib.hid hrow
      clear hLn hv1 hv2 hv3 hsl hsv hsi hrow HR hlt hk
      go_wp2_with fail
      refine HSL.out.mono ?_
      rintro _ wr ⟨rfl, rfl⟩
      go_wp2_with fail
      refine HSV.out.mono ?_
      rintro _ wr ⟨rfl, rfl⟩
      go_wp2_with fail
      refine HSI.out.mono ?_
      rintro _ w5 ⟨v5, rfl, hu5, hS5, hF5⟩
      obtain ⟨a5, c5, rfl⟩ := hu5.slice
      have HLi := Lib.hid (sg_list (HG.out.go0 hF5))
      have HF5 := Lib.hid hF5
      clear HSL HSV HSI hu5 hS5 hF5
      go_wp2_with fail
      refine HLi.out.mono ?_
      rintro _ w6 ⟨v6, rfl, hr6, hS6, hF6⟩
      rw [HE.out.2.1] at hr6
      obtain ⟨a6, c6, rfl⟩ := hr6.slice
      have HF6 := Lib.hid (HF5.out.trans' hF6)
      clear HLi hr6 hS6 hF6 HF5
      go_wp2_with fail
      go_loopw [12] (fun i wq => ∃ d : Nat, d ≤ 16 ∧ i = .int .u64 d ∧ Hid (Fr [] wr wq)) (fun i _ => 16 - (intOf i).toNat)
      case atStart => exact ⟨0, by omega, rfl, HF6⟩
      case round =>
        clear HF6
        obtain ⟨d, hd, rfl, HF6⟩ := hrel
        rename World => wq
        by_cases hdl : d < 16
        · have hdi : (d : Int) < 16 := by omega
          have hix := sg_index (HG.out.go0 HF6.out) d (by omega)
          rw [HE.out.2.2 d] at hix
          have HIX := Lib.hid hix; clear hix
          go_wp2_with fail
          refine HIX.out.mono ?_
          rintro _ w7 ⟨rfl, _, hF7⟩
          have hic := sg_incident (HG.out.go0 (HF6.out.trans' hF7)) d (by omega)
          rw [HE.out.2.1] at hic
          have HIC := Lib.hid hic
          have HF7 := Lib.hid (HF6.out.trans' hF7); clear hic hF7 HIX
          go_wp2_with fail
          refine HIC.out.mono ?_
          rintro _ w8 ⟨v8, rfl, hr8, _, hF8⟩
          obtain ⟨a8, c8, rfl⟩ := hr8.slice
          have HF8 := Lib.hid (HF7.out.trans' hF8); clear hr8 hF8 HIC
          have hil0 : (incL [] d).length = 0 := rfl
          go_wp2_with fail
          exact ⟨⟨d + 1, by omega, by go_num, HF8⟩, by simp [intOf]; omega⟩
        · obtain rfl : d = 16 := by omega
          have e16 : ((16 : Nat) : Int) = 16 := rfl
          rw [e16]
          clear e16
          have HG9 := Lib.hid (And.intro (HG.out.go0 HF6.out) (HRW.out.fr0 HF6.out))
          clear HG HF6 HRW hdl hd
          go_wp2_with fail
          go_loopw [15] (fun i wq => ∃ (j : Nat) (s2 : Sm), j ≤ s.L.length ∧ i = .int .i64 j ∧ Hid (SG W wq ps s2 (Value.slice av s.L.length cv).ownBlock.toList ∧ RowV wq (.slice av s.L.length cv) s.L ∧ Bd s2 (200 + j) ∧ endsOf s2.L = endsOf (s.L.take j))) (fun i _ => s.L.length - (intOf i).toNat)
          case atStart => exact ⟨0, s', Nat.zero_le _, rfl, Lib.hid ⟨HG9.out.1, HG9.out.2, HE.out.1, by rw [HE.out.2.1]; rfl⟩⟩
          case round =>
            clear HG9 HE
            obtain ⟨j, s2, hj, rfl, HR⟩ := hrel
            rename World => wz
            by_cases hlt : j < s.L.length
            · have hji : (j : Int) < s.L.length := by omega
              obtain ⟨b, cv', ev, _, hbl, _, hat⟩ := HR.out.2.1.at hlt
              simp only [Value.slice.injEq, true_and] at ev
              obtain ⟨rfl, rfl⟩ := ev
              have hck := again_chk HOK.out HR.out.1.ok HBD.out HR.out.2.2.1 hlt HR.out.2.2.2
              have hbd := HBD.out.id _ (List.getElem_mem hlt)
              have hen : endsOf (s2.L ++ [s.L[j]]) = endsOf (s.L.take (j + 1)) := by
                rw [List.take_add_one, List.getElem?_eq_getElem hlt]
                unfold endsOf
                rw [List.map_append, List.map_append]
                have := HR.out.2.2.2
                unfold endsOf at this
                rw [this]; rfl
              obtain ⟨e, he⟩ : ∃ e, e = s.L[j] := ⟨_, rfl⟩
              rw [← he] at hat hck hbd hen
              have HEN := Lib.hid (And.intro hbd hen)
              have hir : s2.insR e.u e.v e.wt e.t e.x = s2.edge e.u e.v e.wt e.t e.x := if_pos hck
              have his : s2.insS e.u e.v e.wt e.t e.x = s2.ins e.u e.v e.wt e.t e.x := if_pos hck
              obtain ⟨y, hy⟩ : ∃ y, y = s2.edge e.u e.v e.wt e.t e.x := ⟨_, rfl⟩
              have HI := Lib.hid (show ∀ w', Fr [] wz w' → Calls Try.prog 24 #[sptr ps, recA e.u e.v e.wt e.t, .int .i64 e.x] w' fun r w'' => r = .returned (.tuple #[lvA y, .int .i64 0]) ∧ SG W w'' ps (s2.ins e.u e.v e.wt e.t e.x) (Value.slice (some ⟨b, 0, none⟩) s.L.length cv).ownBlock.toList ∧ Gu (Value.slice (some ⟨b, 0, none⟩) s.L.length cv).ownBlock.toList w' w'' from fun w' hf => by
                have := sg_ins (HR.out.1.go0 hf) e.u e.v e.wt e.t e.x (by omega) (by omega) (by have := HR.out.2.2.1.last; omega)
                rw [hir, his, hck, ← hy] at this
                exact this)
              have HK := Lib.hid (show ∀ w', Gu (Value.slice (some ⟨b, 0, none⟩) s.L.length cv).ownBlock.toList wz w' → w'.cell? ⟨b, j * 7 + 2, none⟩ = some (.int .u64 e.u) ∧ w'.cell? ⟨b, j * 7 + 3, none⟩ = some (.int .u64 e.v) ∧ w'.cell? ⟨b, j * 7 + 4, none⟩ = some (.int .i64 e.wt) ∧ w'.cell? ⟨b, j * 7 + 5, none⟩ = some (.int .i64 e.t) ∧ w'.cell? ⟨b, j * 7 + 6, none⟩ = some (.int .i64 e.x) from fun w' hg =>
                ⟨hg.cell hat.2.2.1 (by simp [Value.ownBlock]), hg.cell hat.2.2.2.1 (by simp [Value.ownBlock]), hg.cell hat.2.2.2.2.1 (by simp [Value.ownBlock]), hg.cell hat.2.2.2.2.2.1 (by simp [Value.ownBlock]), hg.cell hat.2.2.2.2.2.2 (by simp [Value.ownBlock])⟩)
              have HI2 := Lib.hid (show Calls Try.prog 24 #[sptr ps, recA e.u e.v e.wt e.t, .int .i64 e.x] (wz.alloc (.cells #[.int .i64 0, .int .u64 0, .int .u64 0, .int .u64 0, .int .i64 0, .int .i64 0, .int .i64 0] 34)).drew fun r w'' => r = .returned (.tuple #[lvA y, .int .i64 0]) ∧ SG W w'' ps (s2.ins e.u e.v e.wt e.t e.x) (wz.heap.size :: (Value.slice (some ⟨b, 0, none⟩) s.L.length cv).ownBlock.toList) ∧ Gu (wz.heap.size :: (Value.slice (some ⟨b, 0, none⟩) s.L.length cv).ownBlock.toList) (wz.alloc (.cells #[.int .i64 0, .int .u64 0, .int .u64 0, .int .u64 0, .int .i64 0, .int .i64 0, .int .i64 0] 34)).drew w'' ∧ Blk w'' wz.heap.size 34 [.int .i64 0, .int .u64 0, .int .u64 0, .int .u64 0, .int .i64 0, .int .i64 0, .int .i64 0] from by
                have := sg_ins ((HR.out.1.alloc (.cells #[.int .i64 0, .int .u64 0, .int .u64 0, .int .u64 0, .int .i64 0, .int .i64 0, .int .i64 0] 34)).go0 ((Fr.refl [] _).drew)) e.u e.v e.wt e.t e.x (by omega) (by omega) (by have := HR.out.2.2.1.last; omega)
                rw [hir, his, hck, ← hy] at this
                refine this.mono ?_
                rintro r w'' ⟨rfl, h1, h2⟩
                exact ⟨rfl, h1, h2, h2.blk ((Blk.new wz [.int .i64 0, .int .u64 0, .int .u64 0, .int .u64 0, .int .i64 0, .int .i64 0, .int .i64 0] 34).drew) (List.mem_cons_self ..)⟩)
              have hbz : b ≠ wz.heap.size := by omega
              have HST := Lib.hid (show ∀ (w' : World) (a0 a1 a2 a3 a4 a5 a6 : Value), Gu (Value.slice (some ⟨b, 0, none⟩) s.L.length cv).ownBlock.toList w' (((((((w'.setCell ⟨wz.heap.size, 0, none⟩ a0).setCell ⟨wz.heap.size, 1, none⟩ a1).setCell ⟨wz.heap.size, 2, none⟩ a2).setCell ⟨wz.heap.size, 3, none⟩ a3).setCell ⟨wz.heap.size, 4, none⟩ a4).setCell ⟨wz.heap.size, 5, none⟩ a5).setCell ⟨wz.heap.size, 6, none⟩ a6) from fun w' _ _ _ _ _ _ _ =>
                ⟨[wz.heap.size], (((((((Fr.refl _ w').setCell _ _ (.inl (by simp))).setCell _ _ (.inl (by simp))).setCell _ _ (.inl (by simp))).setCell _ _ (.inl (by simp))).setCell _ _ (.inl (by simp))).setCell _ _ (.inl (by simp))).setCell _ _ (.inl (by simp)), fun q hq hm => by simp [Value.ownBlock] at hq; rw [List.mem_singleton] at hm; omega⟩)
              clear hat hck hbd hen he hir his hy
              go_wp2_with fail
              go_region_held3 (fun w' => w'.cell? ⟨b, j * 7 + 2, none⟩ = some (.int .u64 e.u) ∧ w'.cell? ⟨b, j * 7 + 3, none⟩ = some (.int .u64 e.v) ∧ w'.cell? ⟨b, j * 7 + 4, none⟩ = some (.int .i64 e.wt) ∧ w'.cell? ⟨b, j * 7 + 5, none⟩ = some (.int .i64 e.t) ∧ w'.cell? ⟨b, j * 7 + 6, none⟩ = some (.int .i64 e.x))
                (first
                  | with_reducible exact HK5.out _ (HST.out w5 _ _ _ _ _ _ _)
                  | with_reducible exact HK.out _ (Gu.of0 (Fr.refl [] wz).drew)
                  | with_reducible exact HK.out _ (Gu.trans (Gu.of0 (Fr.refl [] wz).drew) hG5)
                  | with_reducible exact HK.out _ (Gu.trans (Gu.trans (Gu.of0 (Fr.refl [] wz).drew) hG5) (Gu.of0 ((Fr.refl [] w5).alloc _)))
                  | with_reducible exact HK.out _ (Gu.of0 ((Fr.refl [] wz).alloc _).drew)
                  | with_reducible exact HK.out _ (Gu.trans (Gu.of0 ((Fr.refl [] wz).alloc _).drew) hG5b))
                (first
                  | (go_at_call 24; with_reducible refine Calls.mono (HI.out _ ((Fr.refl [] wz).drew)) ?_; rintro r w5 ⟨rfl, hS5, hG5⟩)
                  | (go_at_call 24; with_reducible refine Calls.mono HI2.out ?_; rintro r w5 ⟨rfl, hS5b, hG5c, hB5⟩
                     have hG5b := hG5c.mono (Y := (Value.slice (some ⟨b, 0, none⟩) s.L.length cv).ownBlock.toList) (fun q hq => List.mem_cons_of_mem _ hq)
                     have HK5 := Lib.hid (fun w' (hg : Gu (Value.slice (some ⟨b, 0, none⟩) s.L.length cv).ownBlock.toList w5 w') => HK.out w' (Gu.trans (Gu.trans (Gu.of0 ((Fr.refl [] wz).alloc _).drew) hG5b) hg))
                     have hz5 := hB5.frozen
                     have t0 := hB5.cell 0; have t1 := hB5.cell 1; have t2 := hB5.cell 2; have t3 := hB5.cell 3; have t4 := hB5.cell 4; have t5 := hB5.cell 5; have t6 := hB5.cell 6
                     simp only [List.getElem?_cons_zero, List.getElem?_cons_succ] at t0 t1 t2 t3 t4 t5 t6))
              · go_wp2_with fail
                have hen2 : endsOf (s2.ins e.u e.v e.wt e.t e.x).L = endsOf (s.L.take (j + 1)) := by
                  rw [← HEN.out.2]
                  show endsOf (s2.L ++ [s2.edge e.u e.v e.wt e.t e.x]) = _
                  simp [endsOf, Sm.edge]
                go_roundw
                case rel => exact ⟨j + 1, s2.ins e.u e.v e.wt e.t e.x, by omega, by go_num, Lib.hid ⟨(hS5.alloc _).sub (fun q hq => List.mem_cons_of_mem _ hq), (hG5.rowV (HR.out.2.1.fr0 ((Fr.refl [] wz).drew)) (fun q hq => by simpa using hq)).fr0 ((Fr.refl [] w5).alloc _), HR.out.2.2.1.ins HEN.out.1.1 HEN.out.1.2 _ _ _, hen2⟩⟩
                case measure => simp [intOf]; omega
              · go_wp2_with fail
                have hen2 : endsOf (s2.ins e.u e.v e.wt e.t e.x).L = endsOf (s.L.take (j + 1)) := by
                  rw [← HEN.out.2]
                  show endsOf (s2.L ++ [s2.edge e.u e.v e.wt e.t e.x]) = _
                  simp [endsOf, Sm.edge]
                have hfc : Fr [wz.heap.size] w5 (((((((w5.setCell ⟨wz.heap.size, 0, none⟩ (.int .i64 y.slot)).setCell ⟨wz.heap.size, 1, none⟩ (.int .u64 y.seq)).setCell ⟨wz.heap.size, 2, none⟩ (.int .u64 y.u)).setCell ⟨wz.heap.size, 3, none⟩ (.int .u64 y.v)).setCell ⟨wz.heap.size, 4, none⟩ (.int .i64 y.wt)).setCell ⟨wz.heap.size, 5, none⟩ (.int .i64 y.t)).setCell ⟨wz.heap.size, 6, none⟩ (.int .i64 y.x)) :=
                  (((((((Fr.refl _ w5).setCell _ _ (.inl (by simp))).setCell _ _ (.inl (by simp))).setCell _ _ (.inl (by simp))).setCell _ _ (.inl (by simp))).setCell _ _ (.inl (by simp))).setCell _ _ (.inl (by simp))).setCell _ _ (.inl (by simp))
                go_roundw
                case rel => exact ⟨j + 1, s2.ins e.u e.v e.wt e.t e.x, by omega, by go_num, Lib.hid ⟨hS5b.go hfc (fun q hq => .inl (by rw [List.mem_singleton] at hq; simp [hq])) (fun q hq => .inl (List.mem_cons_of_mem _ hq)), (hG5b.rowV (HR.out.2.1.fr0 (((Fr.refl [] wz).alloc _).drew)) (fun q hq => by simpa using hq)).fr hfc (fun q hq hm => by simp [Value.ownBlock] at hq; rw [List.mem_singleton] at hm; omega), HR.out.2.2.1.ins HEN.out.1.1 HEN.out.1.2 _ _ _, hen2⟩⟩
                case measure => simp [intOf]; omega
            · obtain rfl : j = s.L.length := by omega
              have hen := HR.out.2.2.2
              rw [List.take_length] at hen
              have hll : s2.L.length = s.L.length := by simpa [endsOf] using congrArg List.length hen
              have hio : s2.ids = idsOf s.L := by
                rw [ids_of HR.out.1.ok HR.out.2.2.1.id]
                exact idsN_ends hen 16
              have hsl := sg_len HR.out.1
              rw [hll] at hsl
              have hsi := sg_ids HR.out.1
              rw [hio] at hsi
              have HSL := Lib.hid hsl
              have HSI := Lib.hid hsi
              clear hen hll hio hsl hsi
              go_wp2_with fail
              refine HSL.out.mono ?_
              rintro _ wz ⟨rfl, rfl⟩
              go_wp2_with fail
              refine HSI.out.mono ?_
              rintro _ w5 ⟨v5, rfl, hu5, _, hF5⟩
              have HIW := Lib.hid (ids_w (HR.out.2.1.fr0 hF5) (by omega))
              have HF5 := Lib.hid hF5
              have HU5 := Lib.hid hu5
              clear hF5 hu5 HSL HSI
              go_wp2_with fail
              refine HIW.out.mono ?_
              rintro _ w6 ⟨v6, rfl, hu6, _, hF6⟩
              have hil : (idsOf s.L).length ≤ 16 := idsN_len _ _
              have hsm := sameIDs_w (HU5.out.fr0 hF6) hu6 (by omega) (by omega)
              rw [decide_eq_true (rfl : idsOf s.L = idsOf s.L)] at hsm
              have HSm := Lib.hid hsm
              have HF6 := Lib.hid (HF5.out.trans' hF6)
              clear hsm hu6 hF6 HF5 HU5 HIW
              go_wp2_with fail
              refine HSm.out.mono ?_
              rintro _ w7 ⟨rfl, hF7⟩
              have HF7 := Lib.hid (HF6.out.trans' hF7)
              clear HSm hF7 HF6
              go_wp2_with fail
              refine (HWk.out _).mono ?_
              rintro _ w9 ⟨rfl, hF9⟩
              have HF9 := Lib.hid (HR.out.1.go0 (HF7.out.trans' hF9)); clear hF9
              go_wp2_with fail
              go_ret
              exact ⟨rfl, HF9.out.below⟩
end Go.Proofs.Ytbegdgnhpklceaa

namespace Go.Proofs.Ytbegdgnhpklceaa.storeEmpties
open Go.ChangeShapes Go.WideShapes Go.ChangeAt Go.RowKit
set_option linter.unusedVariables false

theorem own : ownKnob Try.prog.godebug = none := by kernel_rfl
theorem laidOut : laidOutB Try.prog = true := by kernel_rfl

set_option maxRecDepth 100000 in
theorem lifted (os : Os) (started : os.Started) (H : Type) (enc : TypeId × Value → H) :
    ReturnsInHanded {} Try.checked os 7 .any (Rows.storeEmptiesSpec.pre6 enc Try.prog Try.f7 Rows.storeEmptiesRow.domain false) (Rows.storeEmptiesSpec.post enc Try.prog Try.f7 false true false false) := by
  refine returnsInHanded_of_change (C := Try.checked) own started (by kernel_rfl) Try.func7
    (ChangeSpec.witness6 (enc := enc) (C := Try.checked) false ⟨#[], #[.slice none 0 0, .bool false], []⟩ 8 (by kernel_rfl) (by kernel_rfl) (by kernel_rfl) (by kernel_rfl)) ?_
  intro W base args ds gs before hval0 hW hcnd _
  have hval : ∀ (j : Nat) t v, Try.f7.params[j]? = some t → args[j]? = some v → Value.okWide Try.prog W .any base t v := hval0
  have hW' := hW
  obtain ⟨p, q, hA0, hV, rfl, hfz, hnd⟩ := hW
  have hA : DataW.TrodAll enc Try.prog W 0 (fun _ => true) true Try.f7.params.toList args.toList ds p := hA0
  rw [Try.params7] at hA hval
  obtain ⟨v0, vs0, d0, ds0, p0, q0, hargs, rfl, rfl, h0, r0⟩ := trodAll_cons hA
  obtain ⟨v1, vs1, d1, ds1, p1, q1, rfl, rfl, rfl, h1, r1⟩ := trodAll_cons r0
  obtain ⟨rfl, rfl, rfl⟩ := trodAll_nil r1
  obtain rfl : args = #[v0, v1] := by cases args; simp_all
  obtain ⟨rfl, rfl⟩ := trodVars_none hV
  obtain ⟨a0, len0, cap0, rfl⟩ := okWide_slice Try.underlying22 (hval 0 22 v0 rfl rfl)
  have k0 := h0
  have lt0 : ∀ x ∈ p0, x.block < W.heap.size := by obtain ⟨m, hm⟩ := k0; exact DataW.trod_lt m _ _ _ hm
  obtain ⟨z0, w0⟩ := open_moves h0
  obtain ⟨a1, rfl, rfl, rfl⟩ := open_bool Try.underlying4 (hval 1 4 v1 rfl rfl) h1
  clear hA0 hval0
  refine (walk_storeEmpties W a0 len0 cap0 z0 w0 a1).mono fun e W' ⟨he, bel⟩ => ?_
  subst he
  exact ⟨_, rfl, _, _, _, [], _, [], hW', trodAll_mk1 (shut_bool Try.underlying4 _), (trodAll_cons_mk (Below.trod laidOut (by kernel_rfl) (of_decide_eq_true (by kernel_rfl)) k0 bel lt0) (trodAll_cons_mk (shut_bool Try.underlying4 a1) trodAll_mk0)), rfl, bel.frame _, fun h => by cases h⟩

theorem over : Rows.storeEmptiesRow.holds Try.pinned (OpenSpec.ofChange Rows.storeEmptiesSpec) :=
  OpenClaim.holds_of_wide 7 Try.f7 rfl rfl rfl rfl rfl rfl rfl ⟨rfl, rfl, rfl, rfl, rfl⟩ rfl rfl rfl rfl rfl (by kernel_rfl) Try.func7 (by kernel_rfl)
    (of_decide_eq_true (by kernel_rfl)) (by unfold Func.isWrapper; first | (rw [if_pos (by decide +kernel)]; kernel_rfl) | (rw [if_neg (by decide +kernel)]; exact ⟨rfl, rfl⟩))
    (fun os started H enc _ => lifted os started H enc)

end Go.Proofs.Ytbegdgnhpklceaa.storeEmpties

namespace Go.Proofs.Ytbegdgnhpklceaa
theorem storeEmpties_holds : Rows.StoreEmptiesSaid := storeEmpties.over
#print axioms storeEmpties_holds
end Go.Proofs.Ytbegdgnhpklceaa
