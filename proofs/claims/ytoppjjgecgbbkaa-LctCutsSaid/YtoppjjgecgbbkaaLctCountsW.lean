/- LctCounts: the walk. -/
import Derived.Test.YtoppjjgecgbbkaaLctPairs
namespace Go.Proofs.Ytoppjjgecgbbkaa
open Go.RowKit Classical
set_option maxRecDepth 10000
set_option maxHeartbeats 800000

def smallB (n : Int) (len : Nat) : Bool := decide (0 ≤ n) && (decide (n ≤ 120) && decide (len ≤ 120))
theorem small_w (w : World) (n : Int) (a : Option Addr) (len cap : Nat) (hl : len ≤ 9223372036854775807) :
    Calls Try.prog 12 #[.int .i64 n, .slice a len cap] w fun e w' => e = .returned (.bool (smallB n len)) ∧ w' = w := by
  by_cases h1 : 0 ≤ n
  · by_cases h2 : n ≤ 120
    · have d3 : decide ((len : Int) ≤ 120) = decide (len ≤ 120) := decide_eq_decide.2 (by omega)
      have e : smallB n len = decide (len ≤ 120) := by simp [smallB, h1, h2]
      rw [e, ← d3]; clear e d3
      go_enter Try.func12, Try.ntmps12
      go_wp2
      go_ret
      exact ⟨rfl, rfl⟩
    · have e : smallB n len = false := by simp [smallB, h2]
      rw [e]; clear e
      have d2 : decide (n ≤ 120) = false := decide_eq_false h2
      go_enter Try.func12, Try.ntmps12
      go_wp2
      go_ret
      exact ⟨rfl, rfl⟩
  · have e : smallB n len = false := by simp [smallB, h1]
    rw [e]; clear e
    have d1 : decide (0 ≤ n) = false := decide_eq_false h1
    go_enter Try.func12, Try.ntmps12
    go_wp2
    go_ret
    exact ⟨rfl, rfl⟩

/-- A forest that was made since the call began. -/
structure Own1 (w wr : World) (pf g n : Nat) (E : Nat → Nat → Prop) (key : Nat → Int) : Prop where
  lm : LM wr pf g n E key
  fr : Fr [] w wr
  pf : w.heap.size ≤ pf
  g : w.heap.size ≤ g
theorem Own1.next {w wr w' : World} {pf g n : Nat} {E E' : Nat → Nat → Prop} {key key' : Nat → Int} (h : Own1 w wr pf g n E key) (hl : LM w' pf g n E' key') (hf : Fr [pf, g] wr w') : Own1 w w' pf g n E' key' :=
  ⟨hl, h.fr.trans hf (fun b hb => .inr (by have h1 := h.pf; have h2 := h.g; simp at hb; omega)), h.pf, h.g⟩
theorem Own1.ask {w wr w' : World} {pf g n : Nat} {E : Nat → Nat → Prop} {key : Nat → Int} (h : Own1 w wr pf g n E key) (hl : LG w' pf g n E key ((n : Int) - nc n E)) (hf : Fr [g] wr w') : Own1 w w' pf g n E key :=
  h.next hl (hf.mono (fun b hb => .inl (by simp at hb; simp [hb])))
theorem Own1.drew {w wr : World} {pf g n : Nat} {E : Nat → Nat → Prop} {key : Nat → Int} (h : Own1 w wr pf g n E key) (k : Nat) : Own1 w (wr.drewN k) pf g n E key :=
  h.next (LG.fr h.lm ((Fr.refl [] wr).drewN k) (by simp) (by simp)) ((Fr.refl _ _).drewN k)
theorem Own1.below {w wr : World} {pf g n : Nat} {E : Nat → Nat → Prop} {key : Nat → Int} (h : Own1 w wr pf g n E key) : Below w.heap.size w wr := h.fr.below (by simp)

theorem link_facts {w w' : World} {pf g n : Nat} {E : Nat → Nat → Prop} {key : Nat → Int} (h : LM w pf g n E key) {a b : Int} (h' : LM w' pf g n (linkE n E a b) key) :
    (linkCode n E a b = 0 ∧ connB n E a b = false ∧ nc n (linkE n E a b) + 1 = nc n E) ∨ (linkCode n E a b ≠ 0 ∧ linkE n E a b = E ∧ (linkCode n E a b = 6 → connB n E a b = true)) := by
  by_cases hc : linkCode n E a b = 0
  · left
    have hE : linkE n E a b = addE E a.toNat b.toNat := by unfold linkE; rw [if_pos hc]
    have hv : inV n a = true ∧ inV n b = true := by
      apply Classical.byContradiction; intro e; unfold linkCode at hc; rw [if_neg e] at hc; cases hc
    have hab : a ≠ b := by
      intro e; unfold linkCode at hc; rw [if_pos hv, if_pos e] at hc; cases hc
    have hn : ¬ Conn E a.toNat b.toNat := by
      intro e; unfold linkCode at hc; rw [if_pos hv, if_neg hab, if_pos e] at hc; cases hc
    obtain ⟨x, rfl, hx⟩ := inV_nat hv.1
    obtain ⟨y, rfl, hy⟩ := inV_nat hv.2
    refine ⟨hc, ?_, ?_⟩
    · cases e : connB n E x y with
      | false => rfl
      | true => exact absurd ((connB_nat hx hy).1 e) hn
    · rw [hE]; rw [hE] at h'
      exact nc_add (LG.frs h) (LG.frs h') hn hx hy
  · right
    have hE : linkE n E a b = E := by unfold linkE; rw [if_neg hc]
    refine ⟨hc, hE, fun h6 => ?_⟩
    rw [connB_iff]
    have hv : inV n a = true ∧ inV n b = true := by
      apply Classical.byContradiction; intro e; unfold linkCode at h6; rw [if_neg e] at h6; cases h6
    refine ⟨hv.1, hv.2, ?_⟩
    apply Classical.byContradiction; intro e
    unfold linkCode at h6
    rw [if_pos hv] at h6
    by_cases hab : a = b
    · rw [if_pos hab] at h6; cases h6
    · rw [if_neg hab, if_neg e] at h6; cases h6

theorem link_codes (n : Nat) (E : Nat → Nat → Prop) (a b : Int) : linkCode n E a b = 0 ∨ linkCode n E a b = 3 ∨ linkCode n E a b = 6 ∨ linkCode n E a b = 9 := by
  unfold linkCode
  split
  · split
    · exact .inr (.inr (.inr rfl))
    · split
      · exact .inr (.inr (.inl rfl))
      · exact .inl rfl
  · exact .inr (.inl rfl)

theorem csize_succ (m : Nat) (E : Nat → Nat → Prop) (v : Nat) : csize (m + 1) E v = csize m E v + if Conn E v m then 1 else 0 := by
  unfold csize
  rw [List.range_succ, List.filter_append, List.length_append]
  by_cases h : Conn E v m <;> simp [h]
theorem nc_succ (m : Nat) (E : Nat → Nat → Prop) : nc (m + 1) E = nc m E + if IsFirst E m then 1 else 0 := by
  unfold nc
  rw [List.range_succ, List.filter_append, List.length_append]
  by_cases h : IsFirst E m <;> simp [h]

theorem walk_lctCounts (W : World) (n : Int) (wn : (Lit.int .i64 n).wf = true) (a : Option Addr) (len cap : Nat) (z : Nat → Int × Int) (hz : PairsF W a len z) :
    Calls Try.prog 3 #[.int .i64 n, .slice a len cap] W fun e w' => e = .returned (.bool true) ∧ Below W.heap.size W w' := by
  have hS := small_w W n a len cap hz.1
  have HZ := Lib.hid hz; clear hz
  cases hsm : smallB n len with
  | false =>
    rw [hsm] at hS
    have HS := Lib.hid hS; clear hS hsm
    go_enter Try.func3, Try.ntmps3
    go_wp2_with fail
    refine HS.out.mono ?_
    rintro _ w ⟨rfl, rfl⟩
    go_wp2_with fail
    refine (works_w w).mono ?_
    rintro _ w2 ⟨rfl, hB⟩
    go_wp2
    go_ret
    exact ⟨rfl, hB⟩
  | true =>
    rw [hsm] at hS
    have HS := Lib.hid hS; clear hS
    have hn : 0 ≤ n ∧ n ≤ 120 ∧ len ≤ 120 := by simp [smallB] at hsm; omega
    clear hsm
    obtain ⟨n, rfl⟩ : ∃ m : Nat, n = m := ⟨n.toNat, by omega⟩
    obtain ⟨_, hn1, hn2⟩ := hn
    have hn3 : n ≤ 120 := by omega
    go_enter Try.func3, Try.ntmps3
    go_wp2_with fail
    refine HS.out.mono ?_
    rintro _ w ⟨rfl, rfl⟩
    go_wp2_with fail
    refine (new_w n w (by omega)).mono ?_
    rintro _ w1 ⟨pf, g, rfl, h1, f1, hp, hg⟩
    have HO := Lib.hid (Own1.mk h1 f1 hp hg)
    have hnn := nc_none n
    clear h1 f1
    go_wp2
    go_loopw [7, 8] (fun x y wr => ∃ (k c : Nat) (E : Nat → Nat → Prop), k ≤ len ∧ y = .int .i64 k ∧ x = .int .i64 c ∧ Hid (c + nc n E = n) ∧ c ≤ 120 ∧ Hid (Own1 w wr pf g n E (fun _ => 0))) (fun _ y _ => len - (intOf y).toNat)
    case atStart => exact ⟨0, 0, fun _ _ => False, Nat.zero_le _, rfl, rfl, Lib.hid (by rw [hnn]; omega), by omega, HO⟩
    case round =>
      clear HO hnn HS
      obtain ⟨k, c, E, hk, rfl, rfl, HCn, hc120, HO⟩ := hrel
      by_cases hlt : k < len
      · obtain ⟨b, off, rfl, hb, q0, q1⟩ := (HZ.out.below HO.out.below).2 k hlt
        have hkl : (k : Int) < len := by omega
        generalize hz0 : (z k).1 = z0 at *
        generalize hz1 : (z k).2 = z1 at *
        have HZ01 := Lib.hid (And.intro hz0 hz1); clear hz0 hz1
        go_wp2
        refine region_one 11 (fun w' => Own1 w w' pf g n E (fun _ => 0)) (by kernel_rfl) (by kernel_rfl) (by kernel_rfl) ?_
        iterate 11 (refine gWalk_pre (by decide) (fun K hK => ?_); go_simp; refine hK _ ?_; clear hK K)
        refine gWalk_write rfl (.bool (connB n E z0 z1)) (fun w' hw' => ?_) ?_
        · obtain ⟨nq, rfl⟩ := hw'
          go_simp
          refine (connected_d (HO.out.drew nq).lm z0 z1).mono ?_
          rintro e w3 ⟨rfl, h3, f3⟩
          exact ⟨rfl, (HO.out.drew nq).ask h3 f3⟩
        refine gWalk_post (by decide) (fun K hK => ?_); go_simp; refine hK _ ?_; clear hK K
        refine gWalk_nil ?_
        rintro w2 hO2
        clear q0 q1 HO
        have HO := Lib.hid hO2; clear hO2
        obtain ⟨b', off', e, hb', q0, q1⟩ := (HZ.out.below HO.out.below).2 k hlt
        simp only [Option.some.injEq, Addr.mk.injEq, and_true] at e
        obtain ⟨rfl, rfl⟩ := e
        rw [HZ01.out.1] at q0
        rw [HZ01.out.2] at q1
        go_wp2
        refine region_one 11 (fun w' => Own1 w w' pf g n (linkE n E z0 z1) (fun _ => 0)) (by kernel_rfl) (by kernel_rfl) (by kernel_rfl) ?_
        iterate 11 (refine gWalk_pre (by decide) (fun K hK => ?_); go_simp; refine hK _ ?_; clear hK K)
        refine gWalk_write rfl (.int .i64 (linkCode n E z0 z1)) (fun w' hw' => ?_) ?_
        · obtain ⟨nq, rfl⟩ := hw'
          go_simp
          refine (link_w (HO.out.drew nq).lm z0 z1).mono ?_
          rintro e w3 ⟨rfl, h3, f3⟩
          exact ⟨rfl, (HO.out.drew nq).next h3 f3⟩
        refine gWalk_post (by decide) (fun K hK => ?_); go_simp; refine hK _ ?_; clear hK K
        refine gWalk_nil ?_
        rintro w3 hO3
        have HO3 := Lib.hid hO3; clear hO3
        have hfx := link_facts HO.out.lm HO3.out.lm
        have hcd := link_codes n E z0 z1
        clear q0 q1 HO
        have hnc1 := nc_le n E
        have hnc2 := nc_le n (linkE n E z0 z1)
        have hT := Lib.hid (trees_w HO3.out.lm)
        rcases hfx with ⟨f1, f2, f3⟩ | ⟨f1, f2, f3⟩
        · rw [f1, f2]
          have hbn : ((nc n (linkE n E z0 z1) : Int) != (n : Int) - ((c : Int) + 1)) = false := by
            have := HCn.out
            simp; omega
          have Hf3 := Lib.hid f3; clear f3 hcd f1 f2
          have hc2 : c + 1 ≤ 120 := by have := HCn.out; have := Hf3.out; omega
          go_wp2_with fail
          refine hT.out.mono ?_
          rintro _ _ ⟨rfl, kq, rfl⟩
          go_wp2
          go_roundw
          case rel => exact ⟨k + 1, c + 1, _, by omega, by go_num, by go_num, Lib.hid (by have := HCn.out; have := Hf3.out; omega), hc2, Lib.hid (HO3.out.drew kq)⟩
          case measure => simp [intOf]; omega
        · have hbn : ((nc n (linkE n E z0 z1) : Int) != (n : Int) - (c : Int)) = false := by
            have := HCn.out
            rw [f2]; simp; omega
          have Hf2 := Lib.hid f2; clear f2
          rcases hcd with e | e | e | e
          · exact absurd e f1
          · rw [e]
            clear f1 f3 e
            cases connB n E z0 z1 <;>
            · go_wp2_with fail
              refine hT.out.mono ?_
              rintro _ _ ⟨rfl, kq, rfl⟩
              go_wp2
              go_roundw
              case rel => exact ⟨k + 1, c, _, by omega, by go_num, rfl, Lib.hid (by rw [Hf2.out]; exact HCn.out), hc120, Lib.hid (HO3.out.drew kq)⟩
              case measure => simp [intOf]; omega
          · rw [f3 e, e]
            clear f1 f3 e
            go_wp2_with fail
            refine hT.out.mono ?_
            rintro _ _ ⟨rfl, kq, rfl⟩
            go_wp2
            go_roundw
            case rel => exact ⟨k + 1, c, _, by omega, by go_num, rfl, Lib.hid (by rw [Hf2.out]; exact HCn.out), hc120, Lib.hid (HO3.out.drew kq)⟩
            case measure => simp [intOf]; omega
          · rw [e]
            clear f1 f3 e
            cases connB n E z0 z1 <;>
            · go_wp2_with fail
              refine hT.out.mono ?_
              rintro _ _ ⟨rfl, kq, rfl⟩
              go_wp2
              go_roundw
              case rel => exact ⟨k + 1, c, _, by omega, by go_num, rfl, Lib.hid (by rw [Hf2.out]; exact HCn.out), hc120, Lib.hid (HO3.out.drew kq)⟩
              case measure => simp [intOf]; omega
      · clear HCn hc120
        have Hfs := Lib.hid (LG.frs HO.out.lm)
        go_wp2
        go_loopw [11, 12] (fun x y wr => ∃ v : Nat, v ≤ n ∧ y = .int .i64 v ∧ x = .int .i64 (nc v E : Nat) ∧ Hid (Own1 w wr pf g n E (fun _ => 0))) (fun _ y _ => n - (intOf y).toNat)
        case atStart => exact ⟨0, Nat.zero_le _, rfl, rfl, HO⟩
        case round =>
          clear HO
          obtain ⟨v, hv, rfl, rfl, HO⟩ := hrel
          have hncv := nc_le v E
          by_cases hvn : v < n
          · go_wp2
            go_loopw [13, 14, 15] (fun x s y wr => ∃ u : Nat, u ≤ n ∧ y = .int .i64 u ∧ s = .int .i64 (csize u E v : Nat) ∧ x = .bool (decide (∀ q, q < u → Conn E v q → v ≤ q)) ∧ Hid (Own1 w wr pf g n E (fun _ => 0))) (fun _ _ y _ => n - (intOf y).toNat)
            case atStart => exact ⟨0, Nat.zero_le _, rfl, rfl, by simp, HO⟩
            case round =>
              clear HO
              obtain ⟨u, hu, rfl, rfl, rfl, HO⟩ := hrel
              have hcs := csize_le u E v
              by_cases hun : u < n
              · have hC := connected_d HO.out.lm (v : Int) (u : Int)
                by_cases hc : Conn E v u
                · rw [(connB_nat hvn hun).2 hc] at hC
                  have HC := Lib.hid hC; clear hC
                  have e1 : csize (u + 1) E v = csize u E v + 1 := by rw [csize_succ, if_pos hc]
                  have e2 : decide (∀ q, q < u + 1 → Conn E v q → v ≤ q) = (decide (∀ q, q < u → Conn E v q → v ≤ q) && decide ((v : Int) ≤ u)) := by
                    rw [Bool.eq_iff_iff]
                    simp only [decide_eq_true_eq, Bool.and_eq_true]
                    constructor
                    · intro h; exact ⟨fun q hq => h q (by omega), by have := h u (by omega) hc; omega⟩
                    · rintro ⟨h1, h2⟩ q hq hcq
                      by_cases e : q = u
                      · omega
                      · exact h1 q (by omega) hcq
                  have He := Lib.hid (And.intro e1 e2); clear e1 e2
                  have Hc := Lib.hid hc; clear hc
                  generalize hdd : decide (∀ q, q < u → Conn E v q → v ≤ q) = dd at *
                  clear hdd
                  cases dd with
                  | true =>
                    go_wp2_with fail
                    refine HC.out.mono ?_
                    rintro _ w4 ⟨rfl, h4, f4⟩
                    go_wp2
                    go_roundw
                    case rel => exact ⟨u + 1, by omega, by go_num, by rw [He.out.1]; go_num, by rw [He.out.2]; simp, Lib.hid (HO.out.ask h4 f4)⟩
                    case measure => simp [intOf]; omega
                  | false =>
                    go_wp2_with fail
                    refine HC.out.mono ?_
                    rintro _ w4 ⟨rfl, h4, f4⟩
                    go_wp2
                    go_roundw
                    case rel => exact ⟨u + 1, by omega, by go_num, by rw [He.out.1]; go_num, by rw [He.out.2]; simp, Lib.hid (HO.out.ask h4 f4)⟩
                    case measure => simp [intOf]; omega
                · have hcf : connB n E v u = false := by
                    cases e : connB n E v u with
                    | false => rfl
                    | true => exact absurd ((connB_nat hvn hun).1 e) hc
                  rw [hcf] at hC
                  have HC := Lib.hid hC; clear hC hcf
                  have e1 : csize (u + 1) E v = csize u E v := by rw [csize_succ, if_neg hc]; rfl
                  have e2 : decide (∀ q, q < u + 1 → Conn E v q → v ≤ q) = decide (∀ q, q < u → Conn E v q → v ≤ q) := by
                    rw [decide_eq_decide]
                    constructor
                    · intro h q hq; exact h q (by omega)
                    · intro h q hq hcq
                      by_cases e : q = u
                      · rw [e] at hcq; exact absurd hcq hc
                      · exact h q (by omega) hcq
                  have He := Lib.hid (And.intro e1 e2); clear e1 e2 hc
                  go_wp2_with fail
                  refine HC.out.mono ?_
                  rintro _ w4 ⟨rfl, h4, f4⟩
                  go_wp2
                  go_roundw
                  case rel => exact ⟨u + 1, by omega, by go_num, by rw [He.out.1], by rw [He.out.2], Lib.hid (HO.out.ask h4 f4)⟩
                  case measure => simp [intOf]; omega
              · obtain rfl : u = n := by omega
                have hSz := size_w HO.out.lm (v : Int)
                rw [if_pos (show inV u (v : Int) = true by simp [inV]; omega), Int.toNat_natCast] at hSz
                have HSz := Lib.hid hSz; clear hSz
                have hd : decide (∀ q, q < u → Conn E v q → v ≤ q) = decide (IsFirst E v) := by
                  rw [decide_eq_decide]
                  constructor
                  · intro h q hq hc; have := h q (by omega) hc; omega
                  · intro h q hq hc
                    apply Classical.byContradiction; intro e
                    exact h q (by omega) hc
                rw [hd]
                clear hd
                have Hnc := Lib.hid (nc_succ v E)
                by_cases hf : IsFirst E v
                · have df : decide (IsFirst E v) = true := decide_eq_true hf
                  rw [df]
                  have Hnc2 := Lib.hid (show nc (v + 1) E = nc v E + 1 by rw [Hnc.out, if_pos hf])
                  clear df hf Hnc
                  go_wp2_with fail
                  refine HSz.out.mono ?_
                  rintro _ w4 ⟨rfl, h4, f4⟩
                  go_wp2
                  go_roundw
                  case rel => exact ⟨v + 1, by omega, by go_num, by rw [Hnc2.out]; go_num, Lib.hid (HO.out.ask h4 f4)⟩
                  case measure => simp [intOf]; omega
                · have df : decide (IsFirst E v) = false := decide_eq_false hf
                  rw [df]
                  have Hnc2 := Lib.hid (show nc (v + 1) E = nc v E by rw [Hnc.out, if_neg hf]; rfl)
                  clear df hf Hnc
                  go_wp2_with fail
                  refine HSz.out.mono ?_
                  rintro _ w4 ⟨rfl, h4, f4⟩
                  go_wp2
                  go_roundw
                  case rel => exact ⟨v + 1, by omega, by go_num, by rw [Hnc2.out], Lib.hid (HO.out.ask h4 f4)⟩
                  case measure => simp [intOf]; omega
          · obtain rfl : v = n := by omega
            go_wp2_with fail
            refine (trees_w HO.out.lm).mono ?_
            rintro _ _ ⟨rfl, kq, rfl⟩
            go_wp2_with fail
            refine (works_w _).mono ?_
            rintro _ w5 ⟨rfl, hB⟩
            go_wp2
            go_ret
            exact ⟨rfl, (HO.out.drew kq).below.trans (hB.mono (HO.out.drew kq).fr.size)⟩

end Go.Proofs.Ytoppjjgecgbbkaa
