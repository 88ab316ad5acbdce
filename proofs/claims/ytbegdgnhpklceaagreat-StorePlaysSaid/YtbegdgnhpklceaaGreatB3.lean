/- intern: the walk of 'clear', which empties a cell and shifts the ids behind it back. -/
import Derived.Test.YtbegdgnhpklceaaGreatB1
import Derived.Test.YtbegdgnhpklceaaGreatB2
set_option linter.unusedSimpArgs false
set_option linter.unusedVariables false
/- The plain law of a hash table with linear probing, whose removal shifts entries back. No program in sight. -/
namespace Go.Proofs.YtbegdgnhpklceaaGreat

/-- How far b lies behind a, on a circle of n. -/
def dst (n a b : Nat) : Nat := if a ≤ b then b - a else b + n - a
def nxt (n c : Nat) : Nat := if c + 1 = n then 0 else c + 1
def updN (f : Nat → Nat) (i x : Nat) : Nat → Nat := fun j => if j = i then x else f j

theorem updN_same (f : Nat → Nat) (i x : Nat) : updN f i x i = x := by simp [updN]
theorem updN_other {f : Nat → Nat} {i x j : Nat} (h : j ≠ i) : updN f i x j = f j := by simp [updN, h]

theorem mod_nxt {n c : Nat} (h : c < n) : (c + 1) % n = nxt n c := by
  unfold nxt
  by_cases e : c + 1 = n
  · rw [if_pos e, e, Nat.mod_self]
  · rw [if_neg e, Nat.mod_eq_of_lt (by omega)]

theorem dst_emod {n a b : Nat} (ha : a < n) (hb : b < n) : ((b : Int) - (a : Int)) % (n : Int) = (dst n a b : Int) := by
  unfold dst
  by_cases h : a ≤ b
  · rw [if_pos h, Int.emod_eq_of_lt (by omega) (by omega)]; omega
  · rw [if_neg h, show (b : Int) - a = ((b : Int) - a + n) + n * (-1) by omega, Int.add_mul_emod_self_left, Int.emod_eq_of_lt (by omega) (by omega)]; omega

theorem dst_at {n h j : Nat} (hh : h < n) (hj : j < n) : (h + j) % n < n ∧ dst n h ((h + j) % n) = j := by
  refine ⟨Nat.mod_lt _ (by omega), ?_⟩
  unfold dst
  by_cases e : h + j < n
  · rw [Nat.mod_eq_of_lt e, if_pos (by omega)]; omega
  · rw [Nat.mod_eq_sub_mod (by omega), Nat.mod_eq_of_lt (by omega)]
    split <;> omega
theorem at_dst {n h q : Nat} (hh : h < n) (hq : q < n) : dst n h q < n ∧ (h + dst n h q) % n = q := by
  unfold dst
  split
  · refine ⟨by omega, ?_⟩
    rw [show h + (q - h) = q by omega, Nat.mod_eq_of_lt hq]
  · refine ⟨by omega, ?_⟩
    rw [show h + (q + n - h) = q + n by omega, Nat.add_mod_right, Nat.mod_eq_of_lt hq]

theorem dst_self (n h : Nat) : dst n h h = 0 := by simp [dst]

structure TabOK (n : Nat) (hf : Nat → Nat) (C ids : Nat → Nat) (U : Nat → Prop) : Prop where
  live : ∀ c, c < n → C c ≠ 0 → U (C c - 1)
  inj : ∀ c d, c < n → d < n → C c ≠ 0 → C c = C d → c = d
  at_ : ∀ i, U i → ∃ p, p < n ∧ C p = i + 1 ∧ ∀ q, q < n → dst n (hf (ids i)) q < dst n (hf (ids i)) p → C q ≠ 0

/-- The table while an entry is being removed: the cell h is to be emptied or filled; the cells behind it up to c have been looked at. -/
structure Hole (n : Nat) (hf : Nat → Nat) (C ids : Nat → Nat) (U : Nat → Prop) (h c : Nat) : Prop where
  hn : h < n
  cn : c < n
  live : ∀ p, p < n → p ≠ h → C p ≠ 0 → U (C p - 1)
  inj : ∀ p q, p < n → q < n → p ≠ h → q ≠ h → C p ≠ 0 → C p = C q → p = q
  at_ : ∀ i, U i → ∃ p, p < n ∧ p ≠ h ∧ C p = i + 1 ∧ ∀ q, q < n → dst n (hf (ids i)) q < dst n (hf (ids i)) p → C q ≠ 0
  nz : C h ≠ 0
  run : ∀ p, p < n → 0 < dst n h p → dst n h p ≤ dst n h c → C p ≠ 0 ∧ dst n (hf (ids (C p - 1))) p < dst n h p

theorem Hole.start {n : Nat} {hf C ids : Nat → Nat} {U : Nat → Prop} {h i0 : Nat} (t : TabOK n hf C ids U) (hn : h < n) (hc : C h = i0 + 1) :
    Hole n hf C ids (fun i => U i ∧ i ≠ i0) h h := by
  refine ⟨hn, hn, fun p hp hne h0 => ⟨t.live p hp h0, fun e => hne (t.inj p h hp hn h0 (by omega))⟩, fun p q hp hq _ _ h0 e => t.inj p q hp hq h0 e, ?_, by omega, ?_⟩
  · rintro i ⟨hu, hne⟩
    obtain ⟨p, hp, hpc, hpath⟩ := t.at_ i hu
    exact ⟨p, hp, fun e => hne (by subst e; omega), hpc, hpath⟩
  · intro p _ h1 h2
    rw [dst_self] at h2; omega

section
variable {n : Nat} {hf C ids : Nat → Nat} {U : Nat → Prop} {h c : Nat}

theorem dst_nxt (hh : h < n) (_hc : c < n) (hne : nxt n c ≠ h) : dst n h (nxt n c) = dst n h c + 1 := by
  unfold nxt at *
  by_cases e : c + 1 = n
  · rw [if_pos e] at *; unfold dst; rw [if_neg (by omega)]; split <;> omega
  · rw [if_neg e] at *; unfold dst; (repeat' split) <;> omega
theorem nxt_lt (hc : c < n) : nxt n c < n := by unfold nxt; split <;> omega

/-- The next cell holds an entry that may stay. -/
theorem Hole.stay (H : Hole n hf C ids U h c) (hne : nxt n c ≠ h) (h0 : C (nxt n c) ≠ 0) (hd : dst n (hf (ids (C (nxt n c) - 1))) (nxt n c) < dst n h (nxt n c)) :
    Hole n hf C ids U h (nxt n c) := by
  refine ⟨H.hn, nxt_lt H.cn, H.live, H.inj, H.at_, H.nz, fun p hp h1 h2 => ?_⟩
  have e := dst_nxt H.hn H.cn hne
  by_cases hle : dst n h p ≤ dst n h c
  · exact H.run p hp h1 hle
  · have : p = nxt n c := by
      have hq := nxt_lt H.cn
      have hh := H.hn
      have e2 : dst n h p = dst n h (nxt n c) := by omega
      unfold dst at e2; (repeat' split at e2) <;> omega
    subst this
    exact ⟨h0, hd⟩

/-- The next cell's entry moves into the hole. -/
theorem Hole.move (H : Hole n hf C ids U h c) (hf_lt : ∀ x, hf x < n) (hne : nxt n c ≠ h) (h0 : C (nxt n c) ≠ 0) (hd : dst n h (nxt n c) ≤ dst n (hf (ids (C (nxt n c) - 1))) (nxt n c)) :
    Hole n hf (updN C h (C (nxt n c))) ids U (nxt n c) (nxt n c) := by
  have hq := nxt_lt H.cn
  have hh := H.hn
  refine ⟨hq, hq, ?_, ?_, ?_, by rw [updN_other hne]; exact h0, ?_⟩
  · intro p hp hpn hp0
    by_cases e : p = h
    · subst e; rw [updN_same] at hp0 ⊢; exact H.live _ hq hne hp0
    · rw [updN_other e] at hp0 ⊢; exact H.live p hp e hp0
  · intro p q hp hqn hpn hqn' hp0 e
    by_cases ep : p = h
    · by_cases eq : q = h
      · omega
      · rw [ep, updN_same, updN_other eq] at e
        exact absurd (H.inj (nxt n c) q hq hqn hne eq h0 e).symm hqn'
    · by_cases eq : q = h
      · rw [eq, updN_same, updN_other ep] at e
        rw [updN_other ep] at hp0
        exact absurd (H.inj p (nxt n c) hp hq ep hne hp0 e) hpn
      · rw [updN_other ep] at hp0 e
        rw [updN_other eq] at e
        exact H.inj p q hp hqn ep eq hp0 e
  · intro i hu
    obtain ⟨p, hp, hph, hpc, hpath⟩ := H.at_ i hu
    have nz : ∀ q, C q ≠ 0 → updN C h (C (nxt n c)) q ≠ 0 := by
      intro q hq0; by_cases e : q = h
      · subst e; rw [updN_same]; exact h0
      · rw [updN_other e]; exact hq0
    by_cases e : p = nxt n c
    · subst e
      have hi : C (nxt n c) - 1 = i := by omega
      rw [hi] at hd
      refine ⟨h, hh, fun e => hne e.symm, by rw [updN_same]; exact hpc, fun q hqn hlt => nz q (hpath q hqn ?_)⟩
      have hfl := hf_lt (ids i)
      generalize hf (ids i) = a at *
      unfold dst at *; (repeat' split at hd) <;> (repeat' split at hlt) <;> (repeat' split) <;> omega
    · exact ⟨p, hp, e, by rw [updN_other hph]; exact hpc, fun q hqn hlt => nz q (hpath q hqn hlt)⟩
  · intro p hp h1 h2
    rw [dst_self] at h2; omega

/-- The next cell is empty: the hole may be emptied. -/
theorem Hole.fin (H : Hole n hf C ids U h c) (hf_lt : ∀ x, hf x < n) (hne : nxt n c ≠ h) (h0 : C (nxt n c) = 0) :
    TabOK n hf (updN C h 0) ids U := by
  have hq := nxt_lt H.cn
  have hh := H.hn
  refine ⟨?_, ?_, ?_⟩
  · intro p hp hp0
    by_cases e : p = h
    · subst e; rw [updN_same] at hp0; omega
    · rw [updN_other e] at hp0 ⊢; exact H.live p hp e hp0
  · intro p q hp hqn hp0 e
    by_cases ep : p = h
    · subst ep; rw [updN_same] at hp0; omega
    · by_cases eq : q = h
      · subst eq; rw [updN_same] at e; omega
      · rw [updN_other ep] at hp0 e; rw [updN_other eq] at e; exact H.inj p q hp hqn ep eq hp0 e
  · intro i hu
    obtain ⟨p, hp, hph, hpc, hpath⟩ := H.at_ i hu
    refine ⟨p, hp, by rw [updN_other hph]; exact hpc, fun q hqn hlt => ?_⟩
    by_cases e : q = h
    · exfalso
      subst e
      have hfl := hf_lt (ids i)
      have hz : ¬ dst n (hf (ids i)) (nxt n c) < dst n (hf (ids i)) p := fun hl => hpath _ hq hl h0
      have hpz : p ≠ nxt n c := fun e => by subst e; omega
      by_cases hrun : dst n q p ≤ dst n q c
      · have hr := (H.run p hp (by unfold dst; split <;> omega) hrun).2
        have hi : C p - 1 = i := by omega
        rw [hi] at hr
        generalize hf (ids i) = a at *
        unfold dst at hlt hr; (repeat' split at hlt) <;> (repeat' split at hr) <;> omega
      · have hcn := H.cn
        have e2 := dst_nxt hh hcn hne
        generalize hf (ids i) = a at *
        generalize nxt n c = z at *
        unfold dst at *; (repeat' split at hlt) <;> (repeat' split at hz) <;> (repeat' split at hrun) <;> (repeat' split at e2) <;> omega
    · rw [updN_other e]; exact hpath q hqn hlt
end

/-- A new entry, in the first empty cell behind its home. -/
theorem TabOK.put {n : Nat} {hf C ids : Nat → Nat} {U : Nat → Prop} {c i id : Nat} (t : TabOK n hf C ids U) (hc : c < n) (h0 : C c = 0) (hi : ¬ U i)
    (hpath : ∀ q, q < n → dst n (hf id) q < dst n (hf id) c → C q ≠ 0) : TabOK n hf (updN C c (i + 1)) (updN ids i id) (fun j => U j ∨ j = i) := by
  refine ⟨?_, ?_, ?_⟩
  · intro p hp hp0
    by_cases e : p = c
    · subst e; rw [updN_same]; exact .inr (by omega)
    · rw [updN_other e] at hp0 ⊢; exact .inl (t.live p hp hp0)
  · intro p q hp hq hp0 e
    by_cases ep : p = c
    · by_cases eq : q = c
      · omega
      · rw [ep, updN_same, updN_other eq] at e
        exact absurd (by have := t.live q hq (by omega); rwa [← e] at this) hi
    · by_cases eq : q = c
      · rw [eq, updN_same, updN_other ep] at e
        rw [updN_other ep] at hp0
        exact absurd (by have := t.live p hp hp0; rwa [e] at this) hi
      · rw [updN_other ep] at hp0 e; rw [updN_other eq] at e; exact t.inj p q hp hq hp0 e
  · have nz : ∀ q, C q ≠ 0 → updN C c (i + 1) q ≠ 0 := by
      intro q hq0; by_cases e : q = c
      · subst e; rw [updN_same]; omega
      · rw [updN_other e]; exact hq0
    intro j hj
    by_cases e : j = i
    · subst e; rw [updN_same]
      exact ⟨c, hc, updN_same _ _ _, fun q hq hl => nz q (hpath q hq hl)⟩
    · obtain ⟨p, hp, hpc, hpp⟩ := t.at_ j (hj.resolve_right e)
      have epc : p ≠ c := by rintro rfl; omega
      rw [updN_other e]
      exact ⟨p, hp, by rw [updN_other epc]; exact hpc, fun q hq hl => nz q (hpp q hq hl)⟩

theorem TabOK.congr {n : Nat} {hf C ids ids' : Nat → Nat} {U U' : Nat → Prop} (t : TabOK n hf C ids U) (hu : ∀ i, U i ↔ U' i) (hi : ∀ i, U i → ids' i = ids i) : TabOK n hf C ids' U' := by
  refine ⟨fun c hc h0 => (hu _).1 (t.live c hc h0), t.inj, fun i hui => ?_⟩
  rw [hi i ((hu i).2 hui)]
  exact t.at_ i ((hu i).2 hui)

end Go.Proofs.YtbegdgnhpklceaaGreat

namespace Go.Proofs.YtbegdgnhpklceaaGreat
open Go.RowKit
set_option maxRecDepth 4000
set_option maxHeartbeats 400000

def fnRow (n : Nat) (f : Nat → Value) : List Value := (List.range n).map f
theorem fnRow_at {n : Nat} {f : Nat → Value} {i : Nat} (h : i < n) : (fnRow n f)[i]? = some (f i) := by simp [fnRow, h]
theorem fnRow_len (n : Nat) (f : Nat → Value) : (fnRow n f).length = n := by simp [fnRow]
def cellF (C : Nat → Nat) : Nat → Value := fun c => .int .i64 (C c)
def idF (ids : Nat → Nat) : Nat → Value := fun c => .int .u64 (ids c)
theorem fnRow_set (n : Nat) (C : Nat → Nat) (h x : Nat) : (fnRow n (cellF C)).set h (.int .i64 x) = fnRow n (cellF (updN C h x)) := by
  apply List.ext_getElem?
  intro i
  simp only [List.getElem?_set, fnRow_len]
  by_cases hi : i < n
  · rw [fnRow_at hi, fnRow_at hi]
    by_cases e : h = i
    · subst e; rw [if_pos rfl, if_pos hi]; simp [cellF, updN_same]
    · rw [if_neg e]; simp only [cellF]; rw [updN_other (fun h => e h.symm)]
  · have h1 : ∀ f, (fnRow n f)[i]? = none := fun f => List.getElem?_eq_none (by rw [fnRow_len]; omega)
    rw [h1, h1]
    by_cases e : h = i
    · rw [if_pos e, if_neg (by omega)]
    · rw [if_neg e]
theorem fnRow_setId (n : Nat) (C : Nat → Nat) (h x : Nat) : (fnRow n (idF C)).set h (.int .u64 x) = fnRow n (idF (updN C h x)) := by
  apply List.ext_getElem?
  intro i
  simp only [List.getElem?_set, fnRow_len]
  by_cases hi : i < n
  · rw [fnRow_at hi, fnRow_at hi]
    by_cases e : h = i
    · subst e; rw [if_pos rfl, if_pos hi]; simp [idF, updN_same]
    · rw [if_neg e]; simp only [idF]; rw [updN_other (fun h => e h.symm)]
  · have h1 : ∀ f, (fnRow n f)[i]? = none := fun f => List.getElem?_eq_none (by rw [fnRow_len]; omega)
    rw [h1, h1]
    by_cases e : h = i
    · rw [if_pos e, if_neg (by omega)]
    · rw [if_neg e]

/-- The cells of the table, with what room there is behind them. -/
def clRow (n : Nat) (C : Nat → Nat) (rst : List Value) : List Value := fnRow n (cellF C) ++ rst
theorem clRow_at {n : Nat} {C : Nat → Nat} {rst : List Value} {i : Nat} (h : i < n) : (clRow n C rst)[i]? = some (cellF C i) := by
  unfold clRow; rw [List.getElem?_append_left (by rw [fnRow_len]; exact h), fnRow_at h]
theorem clRow_set {n : Nat} {C : Nat → Nat} {rst : List Value} {h : Nat} (x : Nat) (hh : h < n) : (clRow n C rst).set h (.int .i64 x) = clRow n (updN C h x) rst := by
  unfold clRow; rw [List.set_append_left _ _ (by rw [fnRow_len]; exact hh), fnRow_set]

theorem clear_w {rst : List Value} (pt gc n cpc m h0 : Nat) (C ids : Nat → Nat) (U : Nat → Prop) (v : Value) (w : World) (hM : Mask n) (hpt : pt ≠ gc)
    (h3 : w.cell? ⟨pt, 3, none⟩ = some (.slice (some ⟨gc, 0, none⟩) n cpc)) (h2 : w.cell? ⟨pt, 2, none⟩ = some v) (hgc : Blk w gc 3 (clRow n C rst))
    (hv : ∀ i, i < m → ∃ gi cap, v = .slice (some ⟨gi, 0, none⟩) m cap ∧ gi ≠ gc ∧ gi ≠ pt ∧ w.cell? ⟨gi, i, none⟩ = some (.int .u64 (ids i)) ∧ ids i < 18446744073709551616)
    (hU : ∀ i, U i → i < m) (hmm : m ≤ 65536) (hH : Hole n (hm n) C ids U h0 h0) (hz : ∃ z, z < n ∧ C z = 0) :
    Calls Tryz.prog 86 #[ptr pt, .int .i64 h0] w fun e w' => e = .returned (.tuple #[]) ∧ ∃ C', Blk w' gc 3 (clRow n C' rst) ∧ TabOK n (hm n) C' ids U ∧ Fr [gc] w w' := by
  have hn := hM.pos
  have hn2 := hM.le
  have hi := hM.i64
  have HV := Lib.hid hv; clear hv
  have HZ := Lib.hid hz; clear hz
  have HU := Lib.hid hU; clear hU
  go_enter Tryz.func86, Tryz.ntmps86
  go_step3
  go_wp2
  refine wp_label ?_
  go_wp2
  obtain ⟨z, hz1, hz2⟩ := HZ.out
  have HZ1 := Lib.hid hz1; clear hz1
  have HZ2 := Lib.hid hz2; clear hz2
  clear HZ
  go_loopw [1, 5] (fun a b wr => ∃ (h c : Nat) (D : Nat → Nat), h < n ∧ c < n ∧ a = .int .i64 h ∧ b = .int .i64 c ∧ Blk wr gc 3 (clRow n D rst) ∧ Fr [gc] w wr ∧ Hid (Hole n (hm n) D ids U h c ∧ D z = 0 ∧ dst n h c < dst n h z))
    (fun _ b _ => dst n (intOf b).toNat z)
  case atStart => exact ⟨h0, h0, C, hH.hn, hH.hn, rfl, rfl, hgc, Fr.refl _ _, Lib.hid ⟨hH, HZ2.out, by
    rw [dst_self]
    have : h0 ≠ z := fun e => hH.nz (by rw [e]; exact HZ2.out)
    have hh := hH.hn
    have hz := HZ1.out
    unfold dst; split <;> omega⟩⟩
  case round =>
    obtain ⟨h, c, D, hh, hc, rfl, rfl, hB, hF, HH⟩ := hrel
    have r3 := hF.cell h3 (by simpa using hpt)
    have r2 := hF.cell h2 (by simpa using hpt)
    have hfr : wr.frozen? ⟨gc, h, none⟩ = false := hB.frozen h
    have rH : wr.cell? ⟨gc, h, none⟩ = some (.int .i64 (D h)) := (hB.cell h).trans (clRow_at hh)
    have hnx : ((c : Int) + 1) % (n : Int) = ((nxt n c : Nat) : Int) := by
      rw [← mod_nxt hc]; simp
    have hc' := nxt_lt (n := n) hc
    have HN : Hid (nxt n c ≠ h) := by
      intro e
      obtain ⟨H1, H2, H3⟩ := HH.out
      have hz := HZ1.out
      subst e
      unfold nxt at H3; unfold dst at H3
      (repeat' split at H3) <;> omega
    have HE : Hid (dst n h (nxt n c) = dst n h c + 1) := dst_nxt hh hc HN.out
    have HD : Hid (nxt n c ≠ z → dst n h (nxt n c) < dst n h z ∧ dst n (nxt n c) z < dst n c z) := by
      intro hne
      obtain ⟨H1, H2, H3⟩ := HH.out
      have hz := HZ1.out
      have e1 := HN.out
      have e2 := HE.out
      unfold nxt at *
      by_cases e : c + 1 = n
      · rw [if_pos e] at *; unfold dst at *; (repeat' split at H3) <;> (repeat' split at e2) <;> (repeat' split) <;> omega
      · rw [if_neg e] at *; unfold dst at *; (repeat' split at H3) <;> (repeat' split at e2) <;> (repeat' split) <;> omega
    have rC : wr.cell? ⟨gc, nxt n c, none⟩ = some (.int .i64 (D (nxt n c))) := (hB.cell _).trans (clRow_at hc')
    generalize hcc : nxt n c = c' at *
    have HC := Lib.hid hcc; clear hcc
    by_cases hD0 : D c' = 0
    · have hb0 : ((D c' : Int) == 0) = true := beq_iff_eq.2 (by omega)
      have hD0' : Hid (D c' = 0) := hD0
      clear hD0
      go_wp2
      simp only [Exit.noGoto]
      go_end0
      obtain ⟨H1, H2, H3⟩ := HH.out
      refine ⟨rfl, updN D h 0, ?_, ?_, hF.setCell _ _ (.inl (by simp))⟩
      · have := hB.set h (.int .i64 (0 : Nat))
        rw [clRow_set _ hh] at this
        exact this
      · have e := HC.out
        subst e
        exact H1.fin (hm_lt (by omega)) HN.out hD0'
    · obtain ⟨i, hi'⟩ : ∃ i, D c' = i + 1 := ⟨D c' - 1, by omega⟩
      rw [hi'] at rC
      have HI := Lib.hid hi'; clear hi'
      clear hD0
      have hUi : U i := by
        have := HH.out.1.live c' hc' HN.out (by rw [HI.out]; omega)
        rw [HI.out] at this; exact this
      have him := HU.out i hUi
      obtain ⟨gi, cap, rfl, hg1, hg2, hgi, hid⟩ := HV.out i him
      have ri := hF.cell hgi (by simpa using hg1)
      have hd1 := dst_emod (hm_lt (show 0 < n by omega) (ids i)) hc'
      have hd2 := dst_emod hh hc'
      have hml := hm_lt (show 0 < n by omega) (ids i)
      generalize hx1 : dst n (hm n (ids i)) c' = d1 at *
      generalize hx2 : dst n h c' = d2 at *
      have HX1 := Lib.hid hx1; clear hx1
      have HX2 := Lib.hid hx2; clear hx2
      have hb0 : (((i : Int) + 1) == 0) = false := beq_eq_false_iff_ne.2 (by omega)
      by_cases hlt : d1 < d2
      · go_wp2_with (go_at_call 95; refine (home_w pt gc n cpc (ids i) _ r3 hid hM).mono ?_; rintro e w' ⟨rfl, rfl⟩)
        go_roundw
        case rel =>
          obtain ⟨H1, H2, H3⟩ := HH.out
          refine ⟨h, c', D, hh, hc', rfl, rfl, hB, hF, Lib.hid ?_⟩
          have e := HC.out
          have hne : nxt n c ≠ z := fun e2 => by rw [← e, e2] at HI; have := HI.out; omega
          have hD := HD.out (by rw [← e]; exact hne)
          refine ⟨?_, H2, by rw [HX2.out]; exact hD.1⟩
          have hst := H1.stay (by rw [e]; exact HN.out) (by rw [e, HI.out]; omega) (by rw [e, HI.out, HX2.out]; show dst n (hm n (ids i)) c' < d2; rw [HX1.out]; exact hlt)
          rw [e] at hst; exact hst
        case measure =>
          have e := HC.out
          have hne : nxt n c ≠ z := fun e2 => by
            obtain ⟨H1, H2, H3⟩ := HH.out
            rw [← e, e2] at HI; have := HI.out; omega
          have hD := HD.out (by rw [← e]; exact hne)
          simp [intOf]; exact hD.2
      · go_wp2_with (go_at_call 95; refine (home_w pt gc n cpc (ids i) _ r3 hid hM).mono ?_; rintro e w' ⟨rfl, rfl⟩)
        go_roundw
        case rel =>
          obtain ⟨H1, H2, H3⟩ := HH.out
          have e := HC.out
          have hne : nxt n c ≠ z := fun e2 => by rw [← e, e2] at HI; have := HI.out; omega
          have hD := HD.out (by rw [← e]; exact hne)
          have hhz : h ≠ z := fun e => by rw [e] at H3; unfold dst at H3; (repeat' split at H3) <;> omega
          refine ⟨c', c', updN D h (i + 1), hc', hc', rfl, rfl, ?_, hF.setCell _ _ (.inl (by simp)), Lib.hid ⟨?_, by rw [updN_other (fun e => hhz e.symm)]; exact H2, ?_⟩⟩
          · have := hB.set h (.int .i64 ((i + 1 : Nat) : Int))
            rw [clRow_set _ hh] at this
            exact this
          · have hst := H1.move (hm_lt (by omega)) (by rw [e]; exact HN.out) (by rw [e, HI.out]; omega) (by rw [e, HI.out, HX2.out]; show d2 ≤ dst n (hm n (ids i)) c'; rw [HX1.out]; omega)
            rw [e, HI.out] at hst; exact hst
          · rw [dst_self]
            have := HZ1.out
            have hne2 : c' ≠ z := by rw [← e]; exact hne
            unfold dst; split <;> omega
        case measure =>
          have e := HC.out
          have hne : nxt n c ≠ z := fun e2 => by
            obtain ⟨H1, H2, H3⟩ := HH.out
            rw [← e, e2] at HI; have := HI.out; omega
          have hD := HD.out (by rw [← e]; exact hne)
          simp [intOf]; exact hD.2
end Go.Proofs.YtbegdgnhpklceaaGreat
