/- intern: the walk of 'clear', which empties a cell and shifts the ids behind it back. -/
import Derived.Test.YtciacnnelpijeaaFind
import Derived.Test.YtciacnnelpijeaaTab
namespace Go.Proofs.Ytciacnnelpijeaa
open Go.RowKit
set_option maxRecDepth 4000
set_option maxHeartbeats 400000

def fnRow (n : Nat) (f : Nat → Value) : List Value := (List.range n).map f
theorem fnRow_at {n : Nat} {f : Nat → Value} {i : Nat} (h : i < n) : (fnRow n f)[i]? = some (f i) := by simp [fnRow, h]
theorem fnRow_len (n : Nat) (f : Nat → Value) : (fnRow n f).length = n := by simp [fnRow]
def cellF (C : Nat → Nat) : Nat → Value := fun c => .int .i64 (C c)
def idF (ids : Nat → Nat) : Nat → Value := fun c => .int .u64 (ids c)
theorem fnRow_set (n : Nat) (C : Nat → Nat) (h x : Nat) : (fnRow n (cellF C)).set h (.int .i64 x) = fnRow n (cellF (updN C h x)) := by
  apply List.ext_getElem?
  intro i
  simp only [List.getElem?_set, fnRow_len]
  by_cases hi : i < n
  · rw [fnRow_at hi, fnRow_at hi]
    by_cases e : h = i
    · subst e; rw [if_pos rfl, if_pos hi]; simp [cellF, updN_same]
    · rw [if_neg e]; simp only [cellF]; rw [updN_other (fun h => e h.symm)]
  · have h1 : ∀ f, (fnRow n f)[i]? = none := fun f => List.getElem?_eq_none (by rw [fnRow_len]; omega)
    rw [h1, h1]
    by_cases e : h = i
    · rw [if_pos e, if_neg (by omega)]
    · rw [if_neg e]
theorem fnRow_setId (n : Nat) (C : Nat → Nat) (h x : Nat) : (fnRow n (idF C)).set h (.int .u64 x) = fnRow n (idF (updN C h x)) := by
  apply List.ext_getElem?
  intro i
  simp only [List.getElem?_set, fnRow_len]
  by_cases hi : i < n
  · rw [fnRow_at hi, fnRow_at hi]
    by_cases e : h = i
    · subst e; rw [if_pos rfl, if_pos hi]; simp [idF, updN_same]
    · rw [if_neg e]; simp only [idF]; rw [updN_other (fun h => e h.symm)]
  · have h1 : ∀ f, (fnRow n f)[i]? = none := fun f => List.getElem?_eq_none (by rw [fnRow_len]; omega)
    rw [h1, h1]
    by_cases e : h = i
    · rw [if_pos e, if_neg (by omega)]
    · rw [if_neg e]

theorem clear_w (pt gc n m h0 : Nat) (C ids : Nat → Nat) (U : Nat → Prop) (v : Value) (w : World) (hM : Mask n) (hpt : pt ≠ gc)
    (h3 : w.cell? ⟨pt, 3, none⟩ = some (.slice (some ⟨gc, 0, none⟩) n n)) (h2 : w.cell? ⟨pt, 2, none⟩ = some v) (hgc : Blk w gc 3 (fnRow n (cellF C)))
    (hv : ∀ i, i < m → ∃ gi cap, v = .slice (some ⟨gi, 0, none⟩) m cap ∧ gi ≠ gc ∧ gi ≠ pt ∧ w.cell? ⟨gi, i, none⟩ = some (.int .u64 (ids i)) ∧ ids i < 18446744073709551616)
    (hU : ∀ i, U i → i < m) (hmm : m ≤ 65536) (hH : Hole n (hm n) C ids U h0 h0) (hz : ∃ z, z < n ∧ C z = 0) :
    Calls Try.prog 35 #[ptr pt, .int .i64 h0] w fun e w' => e = .returned (.tuple #[]) ∧ ∃ C', Blk w' gc 3 (fnRow n (cellF C')) ∧ TabOK n (hm n) C' ids U ∧ Fr [gc] w w' := by
  have hn := hM.pos
  have hn2 := hM.le
  have hi := hM.i64
  have HV := Lib.hid hv; clear hv
  have HZ := Lib.hid hz; clear hz
  have HU := Lib.hid hU; clear hU
  go_enter Try.func35, Try.ntmps35
  go_step3
  go_wp2
  refine wp_label ?_
  go_wp2
  obtain ⟨z, hz1, hz2⟩ := HZ.out
  have HZ1 := Lib.hid hz1; clear hz1
  have HZ2 := Lib.hid hz2; clear hz2
  clear HZ
  go_loopw [1, 5] (fun a b wr => ∃ (h c : Nat) (D : Nat → Nat), h < n ∧ c < n ∧ a = .int .i64 h ∧ b = .int .i64 c ∧ Blk wr gc 3 (fnRow n (cellF D)) ∧ Fr [gc] w wr ∧ Hid (Hole n (hm n) D ids U h c ∧ D z = 0 ∧ dst n h c < dst n h z))
    (fun _ b _ => dst n (intOf b).toNat z)
  case atStart => exact ⟨h0, h0, C, hH.hn, hH.hn, rfl, rfl, hgc, Fr.refl _ _, Lib.hid ⟨hH, HZ2.out, by
    rw [dst_self]
    have : h0 ≠ z := fun e => hH.nz (by rw [e]; exact HZ2.out)
    have hh := hH.hn
    have hz := HZ1.out
    unfold dst; split <;> omega⟩⟩
  case round =>
    obtain ⟨h, c, D, hh, hc, rfl, rfl, hB, hF, HH⟩ := hrel
    have r3 := hF.cell h3 (by simpa using hpt)
    have r2 := hF.cell h2 (by simpa using hpt)
    have hfr : wr.frozen? ⟨gc, h, none⟩ = false := hB.frozen h
    have rH : wr.cell? ⟨gc, h, none⟩ = some (.int .i64 (D h)) := (hB.cell h).trans (fnRow_at hh)
    have hnx : ((c : Int) + 1) % (n : Int) = ((nxt n c : Nat) : Int) := by
      rw [← mod_nxt hc]; simp
    have hc' := nxt_lt (n := n) hc
    have HN : Hid (nxt n c ≠ h) := by
      intro e
      obtain ⟨H1, H2, H3⟩ := HH.out
      have hz := HZ1.out
      subst e
      unfold nxt at H3; unfold dst at H3
      (repeat' split at H3) <;> omega
    have HE : Hid (dst n h (nxt n c) = dst n h c + 1) := dst_nxt hh hc HN.out
    have HD : Hid (nxt n c ≠ z → dst n h (nxt n c) < dst n h z ∧ dst n (nxt n c) z < dst n c z) := by
      intro hne
      obtain ⟨H1, H2, H3⟩ := HH.out
      have hz := HZ1.out
      have e1 := HN.out
      have e2 := HE.out
      unfold nxt at *
      by_cases e : c + 1 = n
      · rw [if_pos e] at *; unfold dst at *; (repeat' split at H3) <;> (repeat' split at e2) <;> (repeat' split) <;> omega
      · rw [if_neg e] at *; unfold dst at *; (repeat' split at H3) <;> (repeat' split at e2) <;> (repeat' split) <;> omega
    have rC : wr.cell? ⟨gc, nxt n c, none⟩ = some (.int .i64 (D (nxt n c))) := (hB.cell _).trans (fnRow_at hc')
    generalize hcc : nxt n c = c' at *
    have HC := Lib.hid hcc; clear hcc
    by_cases hD0 : D c' = 0
    · have hb0 : ((D c' : Int) == 0) = true := beq_iff_eq.2 (by omega)
      have hD0' : Hid (D c' = 0) := hD0
      clear hD0
      go_wp2
      simp only [Exit.noGoto]
      go_end0
      obtain ⟨H1, H2, H3⟩ := HH.out
      refine ⟨rfl, updN D h 0, ?_, ?_, hF.setCell _ _ (.inl (by simp))⟩
      · have := hB.set h (.int .i64 (0 : Nat))
        rw [fnRow_set] at this
        exact this
      · have e := HC.out
        subst e
        exact H1.fin (hm_lt (by omega)) HN.out hD0'
    · obtain ⟨i, hi'⟩ : ∃ i, D c' = i + 1 := ⟨D c' - 1, by omega⟩
      rw [hi'] at rC
      have HI := Lib.hid hi'; clear hi'
      clear hD0
      have hUi : U i := by
        have := HH.out.1.live c' hc' HN.out (by rw [HI.out]; omega)
        rw [HI.out] at this; exact this
      have him := HU.out i hUi
      obtain ⟨gi, cap, rfl, hg1, hg2, hgi, hid⟩ := HV.out i him
      have ri := hF.cell hgi (by simpa using hg1)
      have hd1 := dst_emod (hm_lt (show 0 < n by omega) (ids i)) hc'
      have hd2 := dst_emod hh hc'
      have hml := hm_lt (show 0 < n by omega) (ids i)
      generalize hx1 : dst n (hm n (ids i)) c' = d1 at *
      generalize hx2 : dst n h c' = d2 at *
      have HX1 := Lib.hid hx1; clear hx1
      have HX2 := Lib.hid hx2; clear hx2
      have hb0 : (((i : Int) + 1) == 0) = false := beq_eq_false_iff_ne.2 (by omega)
      by_cases hlt : d1 < d2
      · go_wp2_with (go_at_call 54; refine (home_w pt gc n n (ids i) _ r3 hid hM).mono ?_; rintro e w' ⟨rfl, rfl⟩)
        go_roundw
        case rel =>
          obtain ⟨H1, H2, H3⟩ := HH.out
          refine ⟨h, c', D, hh, hc', rfl, rfl, hB, hF, Lib.hid ?_⟩
          have e := HC.out
          have hne : nxt n c ≠ z := fun e2 => by rw [← e, e2] at HI; have := HI.out; omega
          have hD := HD.out (by rw [← e]; exact hne)
          refine ⟨?_, H2, by rw [HX2.out]; exact hD.1⟩
          have hst := H1.stay (by rw [e]; exact HN.out) (by rw [e, HI.out]; omega) (by rw [e, HI.out, HX2.out]; show dst n (hm n (ids i)) c' < d2; rw [HX1.out]; exact hlt)
          rw [e] at hst; exact hst
        case measure =>
          have e := HC.out
          have hne : nxt n c ≠ z := fun e2 => by
            obtain ⟨H1, H2, H3⟩ := HH.out
            rw [← e, e2] at HI; have := HI.out; omega
          have hD := HD.out (by rw [← e]; exact hne)
          simp [intOf]; exact hD.2
      · go_wp2_with (go_at_call 54; refine (home_w pt gc n n (ids i) _ r3 hid hM).mono ?_; rintro e w' ⟨rfl, rfl⟩)
        go_roundw
        case rel =>
          obtain ⟨H1, H2, H3⟩ := HH.out
          have e := HC.out
          have hne : nxt n c ≠ z := fun e2 => by rw [← e, e2] at HI; have := HI.out; omega
          have hD := HD.out (by rw [← e]; exact hne)
          have hhz : h ≠ z := fun e => by rw [e] at H3; unfold dst at H3; (repeat' split at H3) <;> omega
          refine ⟨c', c', updN D h (i + 1), hc', hc', rfl, rfl, ?_, hF.setCell _ _ (.inl (by simp)), Lib.hid ⟨?_, by rw [updN_other (fun e => hhz e.symm)]; exact H2, ?_⟩⟩
          · have := hB.set h (.int .i64 ((i + 1 : Nat) : Int))
            rw [fnRow_set] at this
            exact this
          · have hst := H1.move (hm_lt (by omega)) (by rw [e]; exact HN.out) (by rw [e, HI.out]; omega) (by rw [e, HI.out, HX2.out]; show d2 ≤ dst n (hm n (ids i)) c'; rw [HX1.out]; omega)
            rw [e, HI.out] at hst; exact hst
          · rw [dst_self]
            have := HZ1.out
            have hne2 : c' ≠ z := by rw [← e]; exact hne
            unfold dst; split <;> omega
        case measure =>
          have e := HC.out
          have hne : nxt n c ≠ z := fun e2 => by
            obtain ⟨H1, H2, H3⟩ := HH.out
            rw [← e, e2] at HI; have := HI.out; omega
          have hD := HD.out (by rw [← e]; exact hne)
          simp [intOf]; exact hD.2
end Go.Proofs.Ytciacnnelpijeaa
