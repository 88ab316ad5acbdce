/- The statement 'InternOneToOne': for every input the call returns true, and each argument reads afterwards as it read before. -/
import Derived.Test.YtciacnnelpijeaaInternOneToOneZ12
import Derived.Test.YtciacnnelpijeaaInternOneToOneZ1
/- InternOneToOne: the walk. -/
namespace Go.Proofs.Ytciacnnelpijeaa
open Go.RowKit
set_option maxRecDepth 10000
set_option maxHeartbeats 800000

def cntTo (M : Md) (m : Nat) : Nat := ((List.range m).filter fun i => (M.idOf i).isSome).length
theorem cntTo_some {M : Md} {m id : Nat} (h : M.idOf m = some id) : cntTo M (m + 1) = cntTo M m + 1 := by simp [cntTo, List.range_succ, List.filter_append, h]
theorem cntTo_none {M : Md} {m : Nat} (h : M.idOf m = none) : cntTo M (m + 1) = cntTo M m := by simp [cntTo, List.range_succ, List.filter_append, h]
theorem cntTo_le (M : Md) (m : Nat) : cntTo M m ≤ m := Nat.le_trans (List.length_filter_le _ _) (by simp)
theorem cntTo_all {M : Md} (hok : M.Ok) {m : Nat} (hm : M.slots ≤ m) : cntTo M m = M.L.length := by
  have : ((List.range m).filter fun i => (M.idOf i).isSome).Perm (M.L.map (·.2)) := by
    rw [List.perm_ext_iff_of_nodup (List.filter_sublist.nodup List.nodup_range) hok.idx]
    intro i
    simp only [List.mem_filter, List.mem_range, List.mem_map]
    constructor
    · rintro ⟨_, h⟩
      obtain ⟨id, h⟩ := Option.isSome_iff_exists.1 h
      exact ⟨_, Md.idOf_mem h, rfl⟩
    · rintro ⟨p, hp, rfl⟩
      have h1 := (hok.used p hp).1
      have h2 := hok.ar.hb
      simp only [Md.ar] at h1 h2
      exact ⟨by omega, by rw [Md.mem_idOf hok.idx (show (p.1, p.2) ∈ M.L from hp)]; rfl⟩
  have := this.length_eq
  simpa [cntTo] using this

structure InvO (most : Nat) (M : Md) : Prop where
  slots : M.slots = 300
  lt : ∀ p ∈ M.L, p.2 < most
theorem InvO.del {most : Nat} {M : Md} (h : InvO most M) (id : Nat) : InvO most (M.del id).M := by
  unfold Md.del
  cases M.find id with
  | none => exact h
  | some i => exact ⟨h.slots, fun p hp => h.lt p (List.mem_filter.1 hp).1⟩
theorem del_find (M : Md) (id : Nat) : (M.del id).M.find id = none := by
  unfold Md.del
  cases hf : M.find id with
  | none => exact hf
  | some i =>
    rw [Md.find_none]
    intro j hm
    simp [Md.rem] at hm
theorem del_err (M : Md) (id : Nat) : (M.del id).err = if (M.find id).isSome then 0 else 5 := by
  unfold Md.del
  cases hf : M.find id <;> rfl

theorem getN {W w : World} {pt : Nat} {M : Md} {l : List Nat} (h : TabN W w pt M l) (id : Nat) (hid : id < 18446744073709551616) :
    Calls Try.prog 22 #[ptr pt, .int .u64 id] w fun e w' => e = .returned (.tuple #[.int .i64 ((M.find id).getD 0), .bool (M.find id).isSome]) ∧ TabN W w' pt M l ∧ Fr [] w w' := by
  refine (tab_get id hid h.1).mono ?_
  rintro e w' ⟨rfl, h1, hB⟩
  exact ⟨rfl, h.keep (Fr.of_below hB), Fr.of_below hB⟩

theorem walk_internOneToOne (W : World) (a0 : Option Addr) (len0 cap0 : Nat) (z0 : List Int) (w0 : IsRow .u64 W a0 len0 cap0 z0) (a1 : Option Addr) (len1 cap1 : Nat) (z1 : List Int) (w1 : IsRow .u64 W a1 len1 cap1 z1) :
    Calls Try.prog 9 #[.slice a0 len0 cap0, .slice a1 len1 cap1] W fun e w' => e = .returned (.bool true) ∧ Below W.heap.size W w' := by
  obtain ⟨f, hR, hf, hl0⟩ := row_u64 w0
  obtain ⟨fg, hRg, hfg, hl1⟩ := row_u64 w1
  clear w0 w1
  have HR := Lib.hid (And.intro hR hf); clear hR hf
  have HG := Lib.hid (And.intro hRg hfg); clear hRg hfg
  by_cases hb0 : 300 < len0
  · have hd : decide ((300 : Int) < (len0 : Int)) = true := decide_eq_true (by omega)
    clear hb0
    go_enter Try.func9, Try.ntmps9
    go_wp2_with (go_at_call 13; refine (works_w _).mono ?_; rintro e w3 ⟨rfl, hB3⟩)
    go_ret
    exact ⟨rfl, hB3⟩
  have hd0 : decide ((300 : Int) < (len0 : Int)) = false := decide_eq_false (by omega)
  by_cases hb1 : 300 < len1
  · have hd : decide ((300 : Int) < (len1 : Int)) = true := decide_eq_true (by omega)
    clear hb0 hb1
    go_enter Try.func9, Try.ntmps9
    go_wp2_with (go_at_call 13; refine (works_w _).mono ?_; rintro e w3 ⟨rfl, hB3⟩)
    go_ret
    exact ⟨rfl, hB3⟩
  have hd1 : decide ((300 : Int) < (len1 : Int)) = false := decide_eq_false (by omega)
  have hl0' : len0 ≤ 300 := by omega
  have hl1' : len1 ≤ 300 := by omega
  clear hb0 hb1
  go_enter Try.func9, Try.ntmps9
  go_wp2_with fail
  refine (filledN W 300 len0 cap0 a0 f HR.out.1 HR.out.2 (by omega) (by decide)).mono ?_
  rintro e w1 ⟨pt, l, a9, c9, rfl, hT⟩
  have hfl := firsts_len f len0
  have hI : InvO (firsts f len0).length (Mf 300 (firsts f len0)) := ⟨rfl, fun p hp => by
    simp only [Mf, List.mem_zipIdx_iff_getElem?] at hp
    exact (List.getElem?_eq_some_iff.1 hp).1⟩
  have HI := Lib.hid hI; clear hI
  have HT := Lib.hid hT
  have hLen := tab_len hT.1
  have hml : (Mf 300 (firsts f len0)).L.length = (firsts f len0).length := by simp [Mf]
  rw [hml] at hLen
  have HLen := Lib.hid hLen
  clear hT HR hd0 hd1 hLen hml
  generalize Mf 300 (firsts f len0) = M0 at *
  generalize (firsts f len0).length = most at *
  go_wp2_with fail
  refine HLen.out.mono ?_
  rintro _ w2 ⟨rfl, e2⟩
  subst e2
  clear HLen
  go_wp2
  go_loopw [9] (fun sy wr => ∃ (k : Nat) (M : Md), k ≤ len1 ∧ sy = .int .i64 k ∧ Hid (TabN W wr pt M l ∧ InvO most M)) (fun sy _ => len1 - (intOf sy).toNat)
  case atStart => exact ⟨0, M0, Nat.zero_le _, rfl, Lib.hid ⟨HT.out, HI.out⟩⟩
  case round =>
    clear HT HI
    obtain ⟨k, M, hk, rfl, HT⟩ := hrel
    by_cases hlt : k < len1
    · obtain ⟨b, off, rfl, hbl, hc⟩ := HG.out.1 k hlt
      have hcw := (HT.out.1.below.cell (p := ⟨b, off + k, none⟩) hbl).trans hc
      have hz := HG.out.2 k
      have hk1 : (k : Int) < len1 := by omega
      have hk0 : (0 : Int) ≤ k := by omega
      have hB0 := HT.out.1.below
      have hcell : ∀ w' : World, Below W.heap.size W w' → w'.cell? ⟨b, off + k, none⟩ = some (.int .u64 (fg k)) := fun w' hB => (hB.cell (p := ⟨b, off + k, none⟩) hbl).trans hc
      have HCell := Lib.hid hcell; clear hcell hc hB0
      generalize fg k = z at *
      have HGt := Lib.hid (getN HT.out.1 z hz)
      have HDf := Lib.hid (And.intro (del_find M z) (del_err M z))
      have HIn := Lib.hid (HT.out.2.del z)
      have HD := Lib.hid (fun (w2 : World) (h : TabN W w2 pt M l) => delN h z hz)
      have HG2 := Lib.hid (fun (w2 : World) (M' : Md) (h : TabN W w2 pt M' l) => getN h z hz)
      clear hz HT
      generalize hM' : M.del z = D at *
      clear hM'
      cases hfz : M.find z with
      | some j =>
        rw [hfz] at HDf HGt
        have he := HDf.out.2
        simp only [Option.isSome_some, if_true] at he
        have He := Lib.hid he; clear he
        go_wp2_with fail
        refine HGt.out.mono ?_
        rintro _ w2 ⟨rfl, hT2, _⟩
        have hcw2 := HCell.out _ hT2.below
        have HD2 := Lib.hid (HD.out _ hT2); clear hT2 hcw HGt HD
        rw [He.out] at HD2
        go_wp2_with fail
        refine HD2.out.mono ?_
        rintro _ w3 ⟨rfl, hT3, _⟩
        have hcw3 := HCell.out _ hT3.below
        have hG3 := HG2.out _ _ hT3
        rw [HDf.out.1] at hG3
        have HG3 := Lib.hid hG3; clear hT3 hG3 hcw2 HD2
        go_wp2_with fail
        refine HG3.out.mono ?_
        rintro _ w4 ⟨rfl, hT4, _⟩
        have HT4 := Lib.hid (And.intro hT4 HIn.out); clear hT4 HG3
        go_wp2
        go_roundw
        case rel => exact ⟨k + 1, D.M, by omega, by go_num, HT4⟩
        case measure => simp [intOf]; omega
      | none =>
        rw [hfz] at HDf HGt
        have he := HDf.out.2
        simp only [Option.isSome_none, Bool.false_eq_true, if_false] at he
        have He := Lib.hid he; clear he
        go_wp2_with fail
        refine HGt.out.mono ?_
        rintro _ w2 ⟨rfl, hT2, _⟩
        have hcw2 := HCell.out _ hT2.below
        have HD2 := Lib.hid (HD.out _ hT2); clear hT2 hcw HGt HD
        rw [He.out] at HD2
        go_wp2_with fail
        refine HD2.out.mono ?_
        rintro _ w3 ⟨rfl, hT3, _⟩
        have hcw3 := HCell.out _ hT3.below
        have hG3 := HG2.out _ _ hT3
        rw [HDf.out.1] at hG3
        have HG3 := Lib.hid hG3; clear hT3 hG3 hcw2 HD2
        go_wp2_with fail
        refine HG3.out.mono ?_
        rintro _ w4 ⟨rfl, hT4, _⟩
        have HT4 := Lib.hid (And.intro hT4 HIn.out); clear hT4 HG3
        go_wp2
        go_roundw
        case rel => exact ⟨k + 1, D.M, by omega, by go_num, HT4⟩
        case measure => simp [intOf]; omega
    · obtain rfl : k = len1 := by omega
      have HL := Lib.hid (tab_list HT.out.1.1)
      have hlen := HT.out.1.1.ok.len
      go_wp2_with fail
      refine HL.out.mono ?_
      rintro _ w2 ⟨v2, rfl, ho2, hq2, hf2⟩
      have HT2 := Lib.hid (And.intro (HT.out.1.keep hf2) HT.out.2)
      have hls : (sortN (M.L.map (·.1))).length = M.L.length := by rw [sortN_len]; simp
      have hsrt := sortN_lt HT.out.1.1.ok.ids
      have hfnd : ∀ q (hq : q < (sortN (M.L.map (·.1))).length), ∃ i, M.find (sortN (M.L.map (·.1)))[q] = some i ∧ M.idOf i = some (sortN (M.L.map (·.1)))[q] ∧ i < most ∧ (sortN (M.L.map (·.1)))[q] < 18446744073709551616 := by
        intro q hq
        have : (sortN (M.L.map (·.1)))[q] ∈ M.L.map (·.1) := sortN_mem.1 (List.getElem_mem hq)
        obtain ⟨p, hp, e⟩ := List.mem_map.1 this
        rw [← e]
        exact ⟨p.2, Md.mem_find HT.out.1.1.ok.ids (show (p.1, p.2) ∈ M.L from hp), Md.mem_idOf HT.out.1.1.ok.idx (show (p.1, p.2) ∈ M.L from hp), HT.out.2.lt p hp, HT.out.1.1.ok.u64 p hp⟩
      obtain ⟨a2, cp2, rfl⟩ := ownsRow_slice ho2
      generalize sortN (M.L.map (·.1)) = s at *
      have HS := Lib.hid (And.intro hls (And.intro hsrt hfnd)); clear hls hsrt hfnd
      have HR2 := Lib.hid ho2; clear ho2 hq2 hf2 HL HT
      generalize hn : M.L.length = n at *
      have Hn := Lib.hid hn; clear hn
      go_wp2
      go_loopw [16] (fun sy wr => ∃ k : Nat, k ≤ n ∧ sy = .int .i64 k ∧ Hid (TabN W wr pt M l) ∧ Hid (wr.ownsRow 0 23 1 (.slice a2 n cp2) n (encId s))) (fun sy _ => n - (intOf sy).toNat)
      case atStart => exact ⟨0, Nat.zero_le _, rfl, Lib.hid HT2.out.1, HR2⟩
      case round =>
        clear HR2
        obtain ⟨j, hj, rfl, HT, HR2⟩ := hrel
        by_cases hlt2 : j < n
        · obtain ⟨g, cap', e, _, hgl, hgc, _⟩ := ownsRow_at HR2.out hlt2
          simp only [Value.slice.injEq, true_and] at e
          obtain ⟨rfl, rfl⟩ := e
          have hjs : j < s.length := by rw [HS.out.1]; exact hlt2
          obtain ⟨i, hfi, hidi, him, h64⟩ := HS.out.2.2 j hjs
          have hx : (encId s)[j]? = some (.int .u64 (s[j] : Nat)) := by simp [encId, hjs]
          rw [hx] at hgc
          have hprev : 0 < j → ∃ y, wr.cell? ⟨g, j - 1, none⟩ = some (.int .u64 (y : Nat)) ∧ y < s[j] := fun h0 => by
            have hj1 : j - 1 < s.length := by omega
            obtain ⟨g', cap'', e, _, _, hgc', _⟩ := ownsRow_at HR2.out (show j - 1 < n by omega)
            simp only [Value.slice.injEq, Option.some.injEq, Addr.mk.injEq, and_true, true_and] at e
            obtain ⟨rfl, rfl⟩ := e
            refine ⟨s[j - 1], hgc'.trans (by simp [encId, hj1]), ?_⟩
            exact List.pairwise_iff_getElem.1 HS.out.2.1 (j - 1) j hj1 hjs (by omega)
          have HPv := Lib.hid hprev; clear hprev hx
          have hjl : (j : Int) < n := by omega
          have hjz : (0 : Int) ≤ j := by omega
          generalize s[j] = x at *
          have hG := getN HT.out x h64
          rw [hfi] at hG
          have HG3 := Lib.hid hG
          have hI3 := fun (w' : World) (h : TabN W w' pt M l) => tab_id (i : Int) h.1
          have hat : M.at (i : Int) = some x := by unfold Md.at; rw [if_pos (by omega)]; simpa using hidi
          rw [hat] at hI3
          have HI3 := Lib.hid hI3; clear hI3 hat hG hfi hidi h64
          go_wp2_with fail
          refine HG3.out.mono ?_
          rintro _ w5 ⟨rfl, hT5, hf5⟩
          have HT5 := Lib.hid hT5
          have hgc5 := hf5.cell hgc (by simp)
          have HR5 : Hid (w5.ownsRow 0 23 1 (.slice (some ⟨g, 0, none⟩) n cp2) n (encId s)) := Lib.hid (ownsRow_same HR2.out (fun q hq => hf5.keep q (HR2.out.lt q hq).2 (by simp)))
          have HPv5 : Hid (0 < j → ∃ y, w5.cell? ⟨g, j - 1, none⟩ = some (.int .u64 (y : Nat)) ∧ y < x) := Lib.hid (fun h0 => by obtain ⟨y, h1, h2⟩ := HPv.out h0; exact ⟨y, hf5.cell h1 (by simp), h2⟩)
          clear hT5 hf5 hgc HG3 HPv HR2 HT
          have HI5 := Lib.hid (HI3.out _ HT5.out)
          go_wp2_with fail
          refine HI5.out.mono ?_
          rintro _ w6 ⟨rfl, e6⟩
          subst e6
          clear HI5 HI3
          have u1 : ((x : Int) != (x : Int)) = false := by simp
          have u2 : decide ((i : Int) < 0) = false := decide_eq_false (by omega)
          have u3 : decide ((i : Int) ≥ (most : Int)) = false := decide_eq_false (by omega)
          have u3' : decide (most ≤ i) = false := decide_eq_false (by omega)
          by_cases h0 : 0 < j
          · obtain ⟨y, hy1, hy2⟩ := HPv5.out h0
            have u4 : decide ((j : Int) > 0) = true := decide_eq_true (by omega)
            have u4' : decide (0 < j) = true := decide_eq_true h0
            have u5 : decide ((y : Int) ≥ (x : Int)) = false := decide_eq_false (by omega)
            have u5' : decide (x ≤ y) = false := decide_eq_false (by omega)
            have hw1 : IntKind.i64.wrap ((j : Int) - 1) = (j : Int) - 1 := IntWalk.i64_in _ (by omega)
            have hw2 : (0 : Int) ≤ (j : Int) - 1 := by omega
            have hw3 : (j : Int) - 1 < n := by omega
            have hw4 : ((j : Int) - 1).toNat = j - 1 := by omega
            clear hy2
            go_wp2
            go_quiet (fail)
            clear hw1 hw4
            go_wp2
            go_roundw
            case rel => exact ⟨j + 1, by omega, by go_num, Lib.hid (HT5.out.keep ((Fr.refl _ _).drewN nq)), HR5⟩
            case measure => simp [intOf]; omega
          · have u4 : decide ((j : Int) > 0) = false := decide_eq_false (by omega)
            have u4' : decide (0 < j) = false := decide_eq_false h0
            go_wp2
            go_quiet (fail)
            go_wp2
            go_roundw
            case rel => exact ⟨j + 1, by omega, by go_num, Lib.hid (HT5.out.keep ((Fr.refl _ _).drewN nq)), HR5⟩
            case measure => simp [intOf]; omega
        · obtain rfl : j = n := by omega
          clear HR2
          go_wp2
          go_loopw [21, 22] (fun sc sy wr => ∃ k : Nat, k ≤ 302 ∧ sc = .int .i64 (cntTo M (k - 1) : Nat) ∧ sy = .int .i64 ((k : Int) - 1) ∧ Hid (TabN W wr pt M l)) (fun _ sy _ => 302 - ((intOf sy) + 1).toNat)
          case atStart => exact ⟨0, by omega, rfl, rfl, HT⟩
          case round =>
            clear HT
            obtain ⟨k2, hk2, rfl, rfl, HT⟩ := hrel
            have hcl := cntTo_le M (k2 - 1)
            by_cases hlt3 : k2 ≤ 301
            · have t1 : decide ((k2 : Int) - 1 ≤ 300) = true := decide_eq_true (by omega)
              have hw1 : IntKind.i64.wrap ((k2 : Int) - 1 + 1) = (k2 : Int) := by rw [show (k2 : Int) - 1 + 1 = k2 by omega]; exact IntWalk.i64_in _ (by omega)
              have HI := Lib.hid (tab_id ((k2 : Int) - 1) HT.out.1)
              cases hat : M.at ((k2 : Int) - 1) with
              | none =>
                rw [hat] at HI
                have hc : cntTo M (k2 + 1 - 1) = cntTo M (k2 - 1) := by
                  by_cases h0 : k2 = 0
                  · subst h0; rfl
                  · unfold Md.at at hat
                    rw [if_pos (by omega)] at hat
                    have := cntTo_none (m := k2 - 1) (M := M) (by rw [← hat]; congr 1; omega)
                    rw [← this]; congr 1; omega
                have Hc := Lib.hid hc; clear hc hat
                go_wp2_with fail
                refine HI.out.mono ?_
                rintro _ w6 ⟨rfl, e6⟩
                subst e6
                clear HI
                go_wp2
                go_roundw
                case rel => exact ⟨k2 + 1, by omega, by rw [Hc.out], by go_num, HT⟩
                case measure => simp [intOf]; omega
              | some id =>
                rw [hat] at HI
                have h0 : 0 < k2 := by
                  by_cases h0 : k2 = 0
                  · subst h0; unfold Md.at at hat; rw [if_neg (by omega)] at hat; cases hat
                  · omega
                have hid2 : M.idOf (k2 - 1) = some id := by
                  unfold Md.at at hat
                  rw [if_pos (by omega)] at hat
                  rw [← hat]; congr 1; omega
                have hm := Md.idOf_mem hid2
                have hG := getN HT.out id (HT.out.1.ok.u64 _ hm)
                rw [Md.mem_find HT.out.1.ok.ids hm] at hG
                have hc : cntTo M (k2 + 1 - 1) = cntTo M (k2 - 1) + 1 := by
                  have := cntTo_some hid2
                  rw [← this]; congr 1; omega
                have Hc := Lib.hid hc; clear hc hat hm hid2
                have HG3 := Lib.hid hG; clear hG
                obtain ⟨m, hm⟩ : ∃ m, m = k2 - 1 := ⟨_, rfl⟩
                have hmk : (m : Int) = (k2 : Int) - 1 := by omega
                have u1 : ((m : Int) != (k2 : Int) - 1) = false := by simp [hmk]
                simp only [Option.getD_some, Option.isSome_some] at HG3
                rw [← hm] at HG3 Hc hcl ⊢
                have hm301 : m ≤ 301 := by omega
                have Hm := Lib.hid (And.intro hm hmk); clear hm hmk
                go_wp2_with fail
                refine HI.out.mono ?_
                rintro _ w6 ⟨rfl, e6⟩
                subst e6
                clear HI
                go_wp2_with fail
                refine HG3.out.mono ?_
                rintro _ w7 ⟨rfl, hT7, _⟩
                have HT7 := Lib.hid hT7; clear hT7 HG3
                go_wp2
                go_roundw
                case rel => exact ⟨k2 + 1, by omega, by rw [Hc.out]; go_num, by go_num, HT7⟩
                case measure => simp [intOf]; omega
            · obtain rfl : k2 = 302 := by omega
              have t1 : decide ((302 : Int) - 1 ≤ 300) = false := by decide
              have hall := cntTo_all HT.out.1.ok (m := 301) (by rw [HT2.out.2.slots]; decide)
              rw [show cntTo M (302 - 1) = j from hall.trans Hn.out]
              have hL := tab_len HT.out.1
              rw [Hn.out] at hL
              have HL := Lib.hid hL; clear hL hall hcl
              have u1 : ((j : Int) == (j : Int)) = true := by simp
              go_wp2_with fail
              refine HL.out.mono ?_
              rintro _ w6 ⟨rfl, e6⟩
              subst e6
              clear HL
              go_wp2_with fail
              refine (works_w _).mono ?_
              rintro _ w7 ⟨rfl, hB⟩
              go_wp2
              go_ret
              exact ⟨rfl, HT.out.below.trans (hB.mono HT.out.2.1.size)⟩
end Go.Proofs.Ytciacnnelpijeaa

namespace Go.Proofs.Ytciacnnelpijeaa.internOneToOne
open Go.ChangeShapes Go.WideShapes Go.ChangeAt Go.RowKit
set_option linter.unusedVariables false

theorem own : ownKnob Try.prog.godebug = none := by kernel_rfl
theorem laidOut : laidOutB Try.prog = true := by kernel_rfl

set_option maxRecDepth 100000 in
theorem lifted (os : Os) (started : os.Started) (H : Type) (enc : TypeId × Value → H) :
    ReturnsInHanded {} Try.checked os 9 .any (Rows.internOneToOneSpec.pre6 enc Try.prog Try.f9 Rows.internOneToOneRow.domain false) (Rows.internOneToOneSpec.post enc Try.prog Try.f9 false true false false) := by
  refine returnsInHanded_of_change (C := Try.checked) own started (by kernel_rfl) Try.func9
    (ChangeSpec.witness6 (enc := enc) (C := Try.checked) false ⟨#[], #[.slice none 0 0, .slice none 0 0], []⟩ 8 (by kernel_rfl) (by kernel_rfl) (by kernel_rfl) (by kernel_rfl)) ?_
  intro W base args ds gs before hval0 hW hcnd _
  have hval : ∀ (j : Nat) t v, Try.f9.params[j]? = some t → args[j]? = some v → Value.okWide Try.prog W .any base t v := hval0
  have hW' := hW
  obtain ⟨p, q, hA0, hV, rfl, hfz, hnd⟩ := hW
  have hA : DataW.TrodAll enc Try.prog W 0 (fun _ => true) true Try.f9.params.toList args.toList ds p := hA0
  rw [Try.params9] at hA hval
  obtain ⟨v0, vs0, d0, ds0, p0, q0, hargs, rfl, rfl, h0, r0⟩ := trodAll_cons hA
  obtain ⟨v1, vs1, d1, ds1, p1, q1, rfl, rfl, rfl, h1, r1⟩ := trodAll_cons r0
  obtain ⟨rfl, rfl, rfl⟩ := trodAll_nil r1
  obtain rfl : args = #[v0, v1] := by cases args; simp_all
  obtain ⟨rfl, rfl⟩ := trodVars_none hV
  obtain ⟨a0, len0, cap0, rfl⟩ := okWide_slice Try.underlying37 (hval 0 37 v0 rfl rfl)
  have k0 := h0
  have lt0 : ∀ x ∈ p0, x.block < W.heap.size := by obtain ⟨m, hm⟩ := k0; exact DataW.trod_lt m _ _ _ hm
  obtain ⟨z0, w0⟩ := open_row Try.underlying37 Try.underlying23 (by kernel_rfl) h0
  obtain ⟨a1, len1, cap1, rfl⟩ := okWide_slice Try.underlying37 (hval 1 37 v1 rfl rfl)
  have k1 := h1
  have lt1 : ∀ x ∈ p1, x.block < W.heap.size := by obtain ⟨m, hm⟩ := k1; exact DataW.trod_lt m _ _ _ hm
  obtain ⟨z1, w1⟩ := open_row Try.underlying37 Try.underlying23 (by kernel_rfl) h1
  clear hA0 hval0
  refine (walk_internOneToOne W a0 len0 cap0 z0 w0 a1 len1 cap1 z1 w1).mono fun e W' ⟨he, bel⟩ => ?_
  subst he
  exact ⟨_, rfl, _, _, _, [], _, [], hW', trodAll_mk1 (shut_bool Try.underlying4 _), (trodAll_cons_mk (Below.trod laidOut (by kernel_rfl) (of_decide_eq_true (by kernel_rfl)) k0 bel lt0) (trodAll_cons_mk (Below.trod laidOut (by kernel_rfl) (of_decide_eq_true (by kernel_rfl)) k1 bel lt1) trodAll_mk0)), rfl, bel.frame _, fun h => by cases h⟩

theorem over : Rows.internOneToOneRow.holds Try.pinned (OpenSpec.ofChange Rows.internOneToOneSpec) :=
  OpenClaim.holds_of_wide 9 Try.f9 rfl rfl rfl rfl rfl rfl rfl ⟨rfl, rfl, rfl, rfl, rfl⟩ rfl rfl rfl rfl rfl (by kernel_rfl) Try.func9 (by kernel_rfl)
    (of_decide_eq_true (by kernel_rfl)) (by unfold Func.isWrapper; first | (rw [if_pos (by decide +kernel)]; kernel_rfl) | (rw [if_neg (by decide +kernel)]; exact ⟨rfl, rfl⟩))
    (fun os started H enc _ => lifted os started H enc)

end Go.Proofs.Ytciacnnelpijeaa.internOneToOne

namespace Go.Proofs.Ytciacnnelpijeaa
theorem internOneToOne_holds : Rows.InternOneToOneSaid := internOneToOne.over
#print axioms internOneToOne_holds
end Go.Proofs.Ytciacnnelpijeaa
