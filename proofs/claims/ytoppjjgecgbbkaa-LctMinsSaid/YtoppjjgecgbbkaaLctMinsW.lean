/- LctMins: the walk. -/
import Derived.Deep.RegionHeld3
import Derived.Test.YtoppjjgecgbbkaaLctSet
import Derived.Test.YtoppjjgecgbbkaaLctMin
import Derived.Test.YtoppjjgecgbbkaaLctPathsW
namespace Go.Proofs.Ytoppjjgecgbbkaa
open Go.RowKit Classical
set_option maxRecDepth 10000
set_option maxHeartbeats 1600000

theorem IsRow.at {k : IntKind} {w : World} {a : Option Addr} {len cap : Nat} {zs : List Int} (h : IsRow k w a len cap zs) {i : Nat} (hi : i < len) : ∃ b off, a = some ⟨b, off, none⟩ ∧ b < w.heap.size ∧ w.cell? ⟨b, off + i, none⟩ = some (.int k (zs.getD i 0)) := by
  rcases h with ⟨_, h, _⟩ | ⟨x, rfl, h1, h2, h3, h4, _⟩
  · omega
  · have hc := h4 i (by omega)
    have hsp := cell_no_spot (h4 0 (by omega))
    obtain ⟨b, off, sp⟩ := x
    have : sp = none := by simpa [Addr.add] using hsp
    subst this
    rw [Addr.add_lit] at hc
    exact ⟨b, off, rfl, cell_lt hc, hc⟩
theorem IsRow.below {k : IntKind} {w w' : World} {a : Option Addr} {len cap : Nat} {zs : List Int} (h : IsRow k w a len cap zs) (hb : Below w.heap.size w w') : IsRow k w' a len cap zs := by
  rcases h with h | ⟨x, rfl, h1, h2, h3, h4, h5⟩
  · exact .inl h
  · refine .inr ⟨x, rfl, h1, h2, h3, fun i hi => ?_, h5⟩
    have hc := h4 i hi
    exact (hb.cell (p := x.add i) (cell_lt hc)).trans hc
theorem IsRow.len {k : IntKind} {w : World} {a : Option Addr} {len cap : Nat} {zs : List Int} (h : IsRow k w a len cap zs) : len ≤ 9223372036854775807 := by
  rcases h with ⟨_, h, _⟩ | ⟨x, rfl, h1, h2, _⟩
  · omega
  · unfold maxLen at h2; omega

/-- The keys after the first v have been set. -/
def keyTo (zs : List Int) (v : Nat) : Nat → Int := fun u => if u < v then zs.getD u 0 else 0
theorem keyTo_zero (zs : List Int) : keyTo zs 0 = fun _ => 0 := by funext u; simp [keyTo]
theorem keyTo_succ {n : Nat} {zs : List Int} {v : Nat} (hv : v < n) : setKey n (keyTo zs v) (v : Int) (zs.getD v 0) = keyTo zs (v + 1) := by
  funext u
  unfold setKey keyTo
  have hin : inV n (v : Int) = true := by simp [inV]; omega
  by_cases e : u = v
  · subst e; rw [if_pos ⟨hin, by simp⟩, if_pos (by omega)]
  · rw [if_neg (by simp; omega)]
    by_cases h : u < v
    · rw [if_pos h, if_pos (by omega)]
    · rw [if_neg h, if_neg (by omega)]
theorem keyI_nat {n : Nat} {key : Nat → Int} {v : Nat} (hv : v < n) : keyI n key (v : Int) = key v := by
  have hin : inV n (v : Int) = true := by simp [inV]; omega
  unfold keyI; rw [hin, if_pos rfl, Int.toNat_natCast]

noncomputable def onB (p : List Nat) (m i : Nat) : Bool := decide (m ∈ p.take i)
theorem onB_zero (p : List Nat) (m : Nat) : onB p m 0 = false := by unfold onB; simp
theorem onB_succ {p : List Nat} {m i : Nat} (hi : i < p.length) : onB p m (i + 1) = (onB p m i || ((p[i]'hi : Int) == (m : Int))) := by
  unfold onB
  rw [Bool.eq_iff_iff, List.take_add_one, List.getElem?_eq_getElem hi]
  simp only [decide_eq_true_eq, Bool.or_eq_true, beq_iff_eq, Option.toList_some, List.mem_append, List.mem_singleton, Int.natCast_inj]
  constructor
  · rintro (h | h)
    · exact .inl h
    · exact .inr h.symm
  · rintro (h | h)
    · exact .inl h
    · exact .inr h.symm
theorem onB_all {p : List Nat} {m : Nat} (h : m ∈ p) : onB p m p.length = true := by unfold onB; rw [List.take_of_length_le (Nat.le_refl _)]; exact decide_eq_true h

theorem walk_lctMins (W : World) (n : Int) (_wn : (Lit.int .i64 n).wf = true) (a : Option Addr) (len cap : Nat) (z : Nat → Int × Int) (hz : PairsF W a len z) (ka : Option Addr) (klen kcap : Nat) (zs : List Int) (hk : IsRow .i64 W ka klen kcap zs) :
    Calls Try.prog 8 #[.int .i64 n, .slice a len cap, .slice ka klen kcap] W fun e w' => e = .returned (.bool true) ∧ Below W.heap.size W w' := by
  have hS := small_w W n a len cap hz.1
  have HZ := Lib.hid hz; clear hz
  have hkl := hk.len
  have HKr := Lib.hid hk; clear hk
  cases hsm : smallB n len with
  | false =>
    rw [hsm] at hS
    have HS := Lib.hid hS; clear hS hsm
    go_enter Try.func8, Try.ntmps8
    go_wp2_with fail
    refine HS.out.mono ?_
    rintro _ w ⟨rfl, rfl⟩
    go_wp2_with fail
    refine (works_w w).mono ?_
    rintro _ w2 ⟨rfl, hB⟩
    go_wp2
    go_ret
    exact ⟨rfl, hB⟩
  | true =>
    rw [hsm] at hS
    have HS := Lib.hid hS; clear hS
    have hn : 0 ≤ n ∧ n ≤ 120 ∧ len ≤ 120 := by simp [smallB] at hsm; omega
    clear hsm
    obtain ⟨n, rfl⟩ : ∃ m : Nat, n = m := ⟨n.toNat, by omega⟩
    obtain ⟨_, hn1, hn2⟩ := hn
    have hn3 : n ≤ 120 := by omega
    go_enter Try.func8, Try.ntmps8
    go_wp2_with fail
    refine HS.out.mono ?_
    rintro _ w ⟨rfl, rfl⟩
    go_wp2_with fail
    refine (grown_w w n hn3 a len cap hn2 z HZ.out).mono ?_
    rintro _ w1 ⟨pf, g, v, rfl, hO, hown, hq⟩
    obtain ⟨a1, c1, rfl⟩ := ownsRow_slice hown
    clear hown hq
    have Hfs := Lib.hid (LG.frs hO.lm)
    have Hlt := Lib.hid (fun v u => LG.edge_lt hO.lm (v := v) (u := u))
    have HO := Lib.hid hO; clear hO
    generalize EK (growK n z len) = E at *
    go_wp2
    go_loopw [9] (fun x wr => ∃ v : Nat, v ≤ klen ∧ v ≤ n ∧ x = .int .i64 v ∧ Hid (Own1 w wr pf g n E (keyTo zs v))) (fun x _ => n - (intOf x).toNat)
    case atStart => exact ⟨0, Nat.zero_le _, Nat.zero_le _, rfl, Lib.hid (by rw [keyTo_zero]; exact HO.out)⟩
    case round =>
      clear HO
      obtain ⟨v, hv1, hv2, rfl, HO⟩ := hrel
      by_cases hlt : v < klen ∧ v < n
      · obtain ⟨hvk, hvn⟩ := hlt
        obtain ⟨b, off, rfl, hb, q0⟩ := HKr.out.at hvk
        have q0 := (HO.out.below.cell (p := ⟨b, off + v, none⟩) hb).trans q0
        have hbg : b ≠ g ∧ b ≠ pf := by have h1 := HO.out.g; have h2 := HO.out.pf; omega
        have SW := set_w (LG.fr HO.out.lm ((Fr.refl [] wr).drew) (by simp) (by simp)) (v : Int) (zs.getD v 0)
        rw [keyTo_succ hvn, show setCode n (v : Int) = 0 by unfold setCode; rw [show inV n (v : Int) = true by simp [inV]; omega]; rfl] at SW
        have KW : ∀ w' : World, LG w' pf g n E (keyTo zs (v + 1)) ((n : Int) - nc n E) → Calls Try.prog 27 #[.pointer (some ⟨pf, 0, none⟩), .int .i64 v] w' fun e w'' => e = .returned (.int .i64 (zs.getD v 0)) ∧ w'' = w' := by
          intro w' h
          have := key_w h (v : Int)
          rw [keyI_nat hvn, show keyTo zs (v + 1) v = zs.getD v 0 by unfold keyTo; rw [if_pos (by omega)]] at this
          exact this
        have HSW := Lib.hid SW; clear SW
        have HKW := Lib.hid KW; clear KW
        have hi1 : (v : Int) < klen := by omega
        have hi2 : (v : Int) < n := by omega
        have hi0 : (0 : Int) ≤ v := by omega
        generalize zs.getD v 0 = zv at *
        go_wp2
        go_region_held3 (fun w' => w'.cell? ⟨b, off + v, none⟩ = some (.int .i64 zv))
          (first
            | go_keep
            | (exact hF3.cell (by assumption) (by simp; omega)))
          (first
            | (go_at_call 26; refine HSW.out.mono ?_; rintro e w3 ⟨rfl, hL3, hF3⟩)
            | (go_at_call 27; refine (HKW.out _ hL3).mono ?_; rintro e w4 ⟨rfl, rfl⟩))
        have HO4 := Lib.hid (HO.out.next hL3 ((((Fr.refl [pf, g] wr).drew)).trans hF3 (fun q hq => .inl (by simp at hq; simp [hq]))))
        go_wp2
        go_roundw
        case rel => exact ⟨v + 1, by omega, by omega, by go_num, HO4⟩
        case measure => simp [intOf]; omega
      · have hcase : (¬ v < klen) ∨ (v < klen ∧ ¬ v < n) := by omega
        have Hc := Lib.hid hlt; clear hlt
        generalize keyTo zs v = key at *
        have hmin := fun (w' : World) (h : LG w' pf g n E key ((n : Int) - nc n E)) (x y : Int) => min_w h x y
        have HMin := Lib.hid hmin; clear hmin
        have hkey : ∀ (w' : World) (_ : LG w' pf g n E key ((n : Int) - nc n E)) (x : Nat) (_ : x < n), Calls Try.prog 27 #[.pointer (some ⟨pf, 0, none⟩), .int .i64 x] w' fun e w'' => e = .returned (.int .i64 (key x)) ∧ w'' = w' := by
          intro w' h x hx
          have := key_w h (x : Int)
          rw [keyI_nat hx] at this
          exact this
        have HKey := Lib.hid hkey; clear hkey
        rcases hcase with h1 | ⟨h1, h2⟩ <;>
        ( go_wp2
          clear h1
          go_loopw [10] (fun x wr => ∃ u : Nat, u ≤ 130 ∧ x = .int .i64 u ∧ Hid (Own1 w wr pf g n E key)) (fun x _ => 200 - (intOf x).toNat)
          case atStart => exact ⟨0, by omega, rfl, HO⟩
          case round =>
            clear HO
            obtain ⟨u, hu, rfl, HO⟩ := hrel
            by_cases hun : u < n
            · have hb1 : (n : Int) - 1 - u = ((n - 1 - u : Nat) : Int) := by omega
              obtain ⟨p, hp⟩ : ∃ p, pathL n E (u : Int) ((n - 1 - u : Nat) : Int) = p := ⟨_, rfl⟩
              have PF := pathf_w HO.out.lm (u : Int) ((n - 1 - u : Nat) : Int)
              rw [hp] at PF
              have HPF := Lib.hid PF; clear PF
              have Hp := Lib.hid hp; clear hp
              have hll : p.length ≤ 120 := by rw [← Hp.out]; exact Nat.le_trans (nodup_le (pathL_nd _ _) (pathL_lt Hlt.out)) hn3
              go_wp2_with fail
              refine HPF.out.mono ?_
              rintro _ w2 ⟨v2, rfl, r2, o2, h2', f2⟩
              have HO2 := Lib.hid (HO.out.ask h2' f2)
              have hlts := LG.lts HO.out.lm
              have R2 := Lib.hid (show RowN w2 v2 p from r2)
              obtain ⟨a2, c2, rfl⟩ := ownsRow_slice r2
              clear r2 h2'
              go_wp2_with fail
              refine (HMin.out _ HO2.out.lm (u : Int) ((n - 1 - u : Nat) : Int)).mono ?_
              rintro _ w3 ⟨hres, h3', f3⟩
              have HO3 := Lib.hid (HO2.out.ask h3' f3)
              have R3 := Lib.hid (R2.out.fr f3 (fun q hq => by have := o2 q hq; simp; omega))
              clear h3' R2
              rcases hres with ⟨hnc, rfl⟩ | ⟨v', u', p', m, e1, e2, hv', hu', hp', hpn, hfm, rfl⟩
              · have hp0 : p = [] := by rw [← Hp.out]; exact pathL_nil hnc
                subst hp0
                go_wp2
                go_loopw [15, 16] (fun on x wr => on = .bool true ∧ x = .int .i64 0 ∧ wr = w3) (fun _ _ _ => 0)
                case atStart => exact ⟨rfl, rfl, rfl⟩
                case round =>
                  obtain ⟨rfl, rfl, rfl⟩ := hrel
                  go_wp2
                  go_roundw
                  case rel => exact ⟨u + 3, by omega, by go_num, HO3⟩
                  case measure => simp [intOf]; omega
              · have ev : v' = u := by omega
                have eu : u' = n - 1 - u := by omega
                subst ev; subst eu
                have hpp : p' = p := by
                  rw [← Hp.out]
                  refine Hfs.out.unique hp' ?_
                  have := pathL_is (n := n) (E := E) (a := (v' : Int)) (b := ((n - 1 - v' : Nat) : Int)) ⟨by simp [inV]; omega, by simp [inV]; omega, by simpa using ⟨p', hp'⟩⟩
                  simpa using this
                subst hpp
                have hmn := hpn m hfm.1
                have hlp : 0 < p'.length := List.length_pos_iff.2 hp'.ne
                have Hfm := Lib.hid (And.intro hfm hpn)
                clear e1 e2 hp' hfm hpn
                have hd0 : decide ((0 : Int) < (p'.length : Int)) = true := decide_eq_true (by omega)
                go_wp2
                go_loopw [15, 16] (fun on x wr => ∃ i : Nat, i ≤ p'.length ∧ on = .bool (onB p' m i) ∧ x = .int .i64 i ∧ wr = w3) (fun _ x _ => p'.length - (intOf x).toNat)
                case atStart => exact ⟨0, Nat.zero_le _, by rw [onB_zero], rfl, rfl⟩
                case round =>
                  obtain ⟨i, hi, rfl, rfl, rfl⟩ := hrel
                  by_cases hil : i < p'.length
                  · obtain ⟨b3, c3', e3, _, q3⟩ := R3.out.at hil
                    simp only [Value.slice.injEq, true_and] at e3
                    obtain ⟨rfl, rfl⟩ := e3
                    have Hon := Lib.hid (onB_succ (m := m) hil)
                    have hxm := List.getElem_mem hil
                    obtain ⟨xi, hxi⟩ : ∃ xi, p'[i]'hil = xi := ⟨_, rfl⟩
                    rw [hxi] at q3 Hon hxm
                    have hxn := Hfm.out.2 xi hxm
                    have hcas := Hfm.out.1.2 xi hxm
                    clear hxi hxm
                    have hil2 : (i : Int) < p'.length := by omega
                    have facts : ∃ e1 e2 : Bool, ((xi : Int) == (m : Int)) = e1 ∧ decide (key xi < key m) = false ∧ (key xi == key m) = e2 ∧ (e2 = true → decide (xi < m) = false) := by
                      by_cases e : xi = m
                      · subst e; exact ⟨true, true, by simp, by simp, by simp, fun _ => by simp⟩
                      · rcases hcas e with h | ⟨h, h'⟩
                        · exact ⟨false, false, beq_eq_false_iff_ne.2 (by omega), decide_eq_false (by omega), beq_eq_false_iff_ne.2 (by omega), fun h => by cases h⟩
                        · exact ⟨false, true, beq_eq_false_iff_ne.2 (by omega), decide_eq_false (by omega), beq_iff_eq.2 h.symm, fun _ => decide_eq_false (by omega)⟩
                    obtain ⟨f1, f2, g1, g2, g3, g4⟩ := facts
                    clear hcas
                    rw [g1] at Hon
                    obtain ⟨on, hon⟩ : ∃ on, onB p' m i = on := ⟨_, rfl⟩
                    rw [hon] at Hon
                    rw [hon]
                    clear hon
                    have K1 := Lib.hid (HKey.out _ HO3.out.lm xi hxn)
                    have K2 := Lib.hid (HKey.out _ HO3.out.lm m hmn)
                    generalize key xi = kx at *
                    generalize key m = km at *
                    cases on <;> cases f2 <;>
                    · (try have g5 := g4 rfl); (try have g6 : ¬ xi < m := of_decide_eq_false g5)
                      clear g4
                      go_wp2_with fail
                      refine K1.out.mono ?_
                      rintro e w4 ⟨rfl, rfl⟩
                      go_wp2_with fail
                      refine K2.out.mono ?_
                      rintro e w4 ⟨rfl, rfl⟩
                      go_wp2_with fail
                      refine K1.out.mono ?_
                      rintro e w4 ⟨rfl, rfl⟩
                      go_wp2_with fail
                      refine K2.out.mono ?_
                      rintro e w4 ⟨rfl, rfl⟩
                      go_wp2
                      go_roundw
                      case rel => exact ⟨i + 1, by omega, by rw [Hon.out]; simp, by go_num, trivial⟩
                      case measure => simp [intOf]; omega
                  · obtain rfl : i = p'.length := by omega
                    rw [onB_all Hfm.out.1.1]
                    go_wp2
                    go_roundw
                    case rel => exact ⟨v' + 3, by omega, by go_num, HO3⟩
                    case measure => simp [intOf]; omega
            · go_wp2_with fail
              refine (works_w _).mono ?_
              rintro _ w7 ⟨rfl, hB⟩
              go_wp2
              go_ret
              exact ⟨rfl, HO.out.below.trans (hB.mono HO.out.fr.size)⟩ )

end Go.Proofs.Ytoppjjgecgbbkaa
