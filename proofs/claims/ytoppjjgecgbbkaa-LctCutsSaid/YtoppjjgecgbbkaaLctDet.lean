/- lct: the answers as functions of the forest. -/
import Derived.Test.YtoppjjgecgbbkaaLctNew
import Derived.Test.YtoppjjgecgbbkaaLctMeet
namespace Go.Proofs.Ytoppjjgecgbbkaa
open Go.RowKit Classical
set_option maxRecDepth 10000
set_option maxHeartbeats 800000

noncomputable def connB (n : Nat) (E : Nat → Nat → Prop) (a b : Int) : Bool := decide (ConnI n E a b)
noncomputable def thePath (E : Nat → Nat → Prop) (a b : Nat) : List Nat := if h : Conn E a b then Classical.choose h else []
noncomputable def theMeet (E : Nat → Nat → Prop) (a b c : Nat) : Nat := if h : ∃ m, MeetsAt E a b c m then Classical.choose h else 0
noncomputable def distI (n : Nat) (E : Nat → Nat → Prop) (a b : Int) : Int := if ConnI n E a b then ((thePath E a.toNat b.toNat).length : Int) - 1 else -1
noncomputable def meetB (n : Nat) (E : Nat → Nat → Prop) (a b c : Int) : Bool := connB n E a b && connB n E b c
noncomputable def meetI (n : Nat) (E : Nat → Nat → Prop) (a b c : Int) : Nat := if meetB n E a b c then theMeet E a.toNat b.toNat c.toNat else 0

section
variable {E : Nat → Nat → Prop} {a b c : Nat}
theorem thePath_eq (h : Frs E) {p : List Nat} (hp : IsPath E a b p) : thePath E a b = p := by
  unfold thePath
  have hc : Conn E a b := ⟨p, hp⟩
  rw [dif_pos hc]
  exact h.unique (Classical.choose_spec hc) hp
theorem thePath_is (hc : Conn E a b) : IsPath E a b (thePath E a b) := by
  unfold thePath; rw [dif_pos hc]; exact Classical.choose_spec hc
theorem meetsAt_unique (h : Frs E) {m m' : Nat} (h1 : MeetsAt E a b c m) (h2 : MeetsAt E a b c m') : m = m' := by
  obtain ⟨p, q, r, a1, a2, a3, a4⟩ := h1
  obtain ⟨p', q', r', b1, b2, b3, b4⟩ := h2
  rw [← h.unique a1 b1, ← h.unique a2 b2, ← h.unique a3 b3] at b4
  exact (b4 m).1 ((a4 m).2 rfl)
theorem theMeet_eq (h : Frs E) {m : Nat} (h1 : MeetsAt E a b c m) : theMeet E a b c = m := by
  unfold theMeet
  have hc : ∃ m, MeetsAt E a b c m := ⟨m, h1⟩
  rw [dif_pos hc]
  exact meetsAt_unique h (Classical.choose_spec hc) h1
theorem connB_iff {n : Nat} {a b : Int} : connB n E a b = true ↔ ConnI n E a b := by unfold connB; exact decide_eq_true_iff
theorem connB_nat {n : Nat} (ha : a < n) (hb : b < n) : connB n E a b = true ↔ Conn E a b := by
  rw [connB_iff]
  refine ⟨fun h => h.2.2, fun h => ⟨?_, ?_, h⟩⟩ <;> · simp [inV]; omega
end

section
variable {w : World} {pf g n : Nat} {E : Nat → Nat → Prop} {key : Nat → Int} {ed : Int} (h : LG w pf g n E key ed)
include h
theorem connected_d (a b : Int) : Calls Try.prog 15 #[.pointer (some ⟨pf, 0, none⟩), .int .i64 a, .int .i64 b] w fun e w' => e = .returned (.bool (connB n E a b)) ∧ LG w' pf g n E key ed ∧ Fr [g] w w' := by
  refine (connected_w h a b).mono ?_
  rintro e w' ⟨r, rfl, hr, h2, h3⟩
  have : r = connB n E a b := by
    have := (connB_iff (n := n) (E := E) (a := a) (b := b))
    cases r <;> cases hc : connB n E a b <;> simp_all
  rw [this]; exact ⟨rfl, h2, h3⟩
theorem dist_d (a b : Int) : Calls Try.prog 21 #[.pointer (some ⟨pf, 0, none⟩), .int .i64 a, .int .i64 b] w fun e w' => e = .returned (.int .i64 (distI n E a b)) ∧ LG w' pf g n E key ed ∧ Fr [g] w w' := by
  have hf := h.frs
  refine (dist_w h a b).mono ?_
  rintro e w' ⟨x, rfl, hr, h2, h3⟩
  refine ⟨?_, h2, h3⟩
  unfold distI
  rcases hr with ⟨hn, rfl⟩ | ⟨v, u, p, rfl, rfl, hv, hu, hp, rfl⟩
  · rw [if_neg hn]
  · have hc : ConnI n E v u := ⟨by simp [inV]; omega, by simp [inV]; omega, p, hp⟩
    rw [if_pos hc, Int.toNat_natCast, Int.toNat_natCast, thePath_eq hf hp]
theorem meet_d (a b c : Int) : Calls Try.prog 20 #[.pointer (some ⟨pf, 0, none⟩), .int .i64 a, .int .i64 b, .int .i64 c] w fun e w' => e = .returned (.tuple #[.int .i64 (meetI n E a b c), .bool (meetB n E a b c)]) ∧ LG w' pf g n E key ed ∧ Fr [g] w w' := by
  have hf := h.frs
  refine (meet_w h a b c).mono ?_
  rintro e w' ⟨hr, h2, h3⟩
  refine ⟨?_, h2, h3⟩
  rcases hr with ⟨hn, rfl⟩ | ⟨v, u, x, m, rfl, rfl, rfl, hv, hu, hx, _, hm, rfl⟩
  · have : meetB n E a b c = false := by
      unfold meetB
      cases h1 : connB n E a b
      · rfl
      · cases h2 : connB n E b c
        · rfl
        · exact absurd ⟨connB_iff.1 h1, connB_iff.1 h2⟩ hn
    unfold meetI
    rw [this]; rfl
  · have hc : meetB n E v u x = true := by
      obtain ⟨p, q, r, q1, q2, q3, _⟩ := hm
      unfold meetB
      rw [Bool.and_eq_true, connB_nat hv hu, connB_nat hu hx]
      exact ⟨⟨p, q1⟩, ⟨q, q2⟩⟩
    unfold meetI
    rw [hc, if_pos rfl, Int.toNat_natCast, Int.toNat_natCast, Int.toNat_natCast, theMeet_eq hf hm]
end

/-- Whoever is connected with another vertex has an edge. -/
theorem conn_in {E : Nat → Nat → Prop} {a b : Nat} (h : Conn E a b) (hne : a ≠ b) : ∃ x, E x b := by
  obtain ⟨p, l, rfl, hw, _, hl⟩ := h
  rcases List.eq_nil_or_concat l with rfl | ⟨S, x, rfl⟩
  · simp at hl; exact absurd hl hne
  · rw [List.concat_eq_append] at *
    rw [← List.cons_append, last_snoc] at hl
    cases hl
    rcases List.eq_nil_or_concat S with rfl | ⟨S', y, rfl⟩
    · exact ⟨a, hw.1⟩
    · rw [List.concat_eq_append, List.append_assoc] at hw
      exact ⟨y, (wk_append.1 hw).2.1⟩

def E0 : Nat → Nat → Prop := fun _ _ => False
def E1 := addE E0 0 1
def E2 := addE E1 1 2
def E3 := addE E2 1 3
theorem e3_iff (v u : Nat) : E3 v u ↔ (v = 0 ∧ u = 1) ∨ (v = 1 ∧ u = 0) ∨ (v = 1 ∧ u = 2) ∨ (v = 2 ∧ u = 1) ∨ (v = 1 ∧ u = 3) ∨ (v = 3 ∧ u = 1) := by
  simp only [E3, E2, E1, E0, addE, false_or]; omega
theorem inV6 (v : Nat) (h : v < 6) : inV 6 (v : Int) = true := by simp [inV]; omega
theorem linkCode_new {n : Nat} {E : Nat → Nat → Prop} {a b : Nat} (ha : a < n) (hb : b < n) (hne : a ≠ b) (hc : ¬ Conn E a b) : linkCode n E a b = 0 := by
  unfold linkCode
  rw [if_pos ⟨by simp [inV]; omega, by simp [inV]; omega⟩, if_neg (by omega), Int.toNat_natCast, Int.toNat_natCast, if_neg hc]
theorem linkE_new {n : Nat} {E : Nat → Nat → Prop} {a b : Nat} (ha : a < n) (hb : b < n) (hne : a ≠ b) (hc : ¬ Conn E a b) : linkE n E a b = addE E a b := by
  unfold linkE; rw [linkCode_new ha hb hne hc]; simp

theorem link_ok {w : World} {pf g n : Nat} {E : Nat → Nat → Prop} {key : Nat → Int} (h : LM w pf g n E key) (a b : Nat) (ha : a < n) (hb : b < n) (hne : a ≠ b) (hc : ¬ Conn E a b) :
    Calls Try.prog 16 #[.pointer (some ⟨pf, 0, none⟩), .int .i64 a, .int .i64 b] w fun e w' => e = .returned (.int .i64 0) ∧ LM w' pf g n (addE E a b) key ∧ Fr [pf, g] w w' := by
  have := link_w h a b
  rw [linkCode_new ha hb hne hc, linkE_new ha hb hne hc] at this
  exact this

theorem path_e3 (a b : Nat) (ha : a = 0 ∨ a = 2 ∨ a = 3) (hb : b = 0 ∨ b = 2 ∨ b = 3) (hne : a ≠ b) : IsPath E3 a b [a, 1, b] := by
  refine ⟨[1, b], rfl, ⟨(e3_iff _ _).2 (by omega), (e3_iff _ _).2 (by omega), trivial⟩, ?_, rfl⟩
  have h1 : a ≠ 1 := by omega
  have h2 : (1 : Nat) ≠ b := by omega
  simp [h1, h2, hne]
theorem e3_conn (v : Nat) (hv : v < 4) : Conn E3 3 v := by
  by_cases h3 : v = 3
  · rw [h3]; exact Conn.refl _ _
  · by_cases h1 : v = 1
    · subst h1
      exact ⟨[3, 1], [1], rfl, ⟨(e3_iff _ _).2 (by omega), trivial⟩, by simp, rfl⟩
    · exact ⟨_, path_e3 3 v (by omega) (by omega) (by omega)⟩
theorem meets_e3 : MeetsAt E3 0 2 3 1 := ⟨_, _, _, path_e3 0 2 (by omega) (by omega) (by omega), path_e3 2 3 (by omega) (by omega) (by omega), path_e3 3 0 (by omega) (by omega) (by omega), fun x => by simp; omega⟩

/-- The example of the chapter, which every statement about layer 12 runs. -/
theorem works_w (w : World) : Calls Try.prog 13 #[] w fun e w' => e = .returned (.bool true) ∧ Below w.heap.size w w' := by
  go_enter Try.func13, Try.ntmps13
  go_wp2_with fail
  refine (new_w 6 w (by decide)).mono ?_
  rintro e w1 ⟨pf, g, rfl, h1, f1, hp, hg⟩
  go_wp2_with fail
  refine (link_ok h1 0 1 (by decide) (by decide) (by decide) (fun hc => by obtain ⟨x, hx⟩ := conn_in hc (by decide); exact hx)).mono ?_
  rintro e w2 ⟨rfl, h2, f2⟩
  change LM w2 pf g 6 E1 _ at h2
  go_wp2_with fail
  refine (link_ok h2 1 2 (by decide) (by decide) (by decide) (fun hc => by obtain ⟨x, hx⟩ := conn_in hc (by decide); simp [E1, E0, addE] at hx)).mono ?_
  rintro e w3 ⟨rfl, h3, f3⟩
  change LM w3 pf g 6 E2 _ at h3
  go_wp2_with fail
  refine (link_ok h3 1 3 (by decide) (by decide) (by decide) (fun hc => by obtain ⟨x, hx⟩ := conn_in hc (by decide); simp [E2, E1, E0, addE] at hx)).mono ?_
  rintro e w4 ⟨rfl, h4, f4⟩
  change LM w4 pf g 6 E3 _ at h4
  have q1 := LG.frs h1
  have q2 := LG.frs h2
  have q3 := LG.frs h3
  have q4 := LG.frs h4
  have hnc : nc 6 E3 = 3 := by
    have a1 := nc_add (n := 6) (a := 0) (b := 1) q1 q2 (fun hc => by obtain ⟨x, hx⟩ := conn_in hc (by decide); exact hx) (by decide) (by decide)
    have a2 := nc_add (n := 6) (a := 1) (b := 2) q2 q3 (fun hc => by obtain ⟨x, hx⟩ := conn_in hc (by decide); simp [E1, E0, addE] at hx) (by decide) (by decide)
    have a3 := nc_add (n := 6) (a := 1) (b := 3) q3 q4 (fun hc => by obtain ⟨x, hx⟩ := conn_in hc (by decide); simp [E2, E1, E0, addE] at hx) (by decide) (by decide)
    have a0 := nc_none 6
    have a1 : nc 6 E1 + 1 = nc 6 (fun _ _ => False) := a1
    have a2 : nc 6 E2 + 1 = nc 6 E1 := a2
    have a3 : nc 6 E3 + 1 = nc 6 E2 := a3
    omega
  have hlc : linkCode 6 E3 (2 : Nat) (0 : Nat) = 6 := by
    unfold linkCode
    rw [if_pos ⟨rfl, rfl⟩, if_neg (by decide), if_pos ⟨_, path_e3 2 0 (by omega) (by omega) (by omega)⟩]
  have hle : linkE 6 E3 (2 : Nat) (0 : Nat) = E3 := by unfold linkE; rw [hlc]; simp
  have L4 := link_w h4 (2 : Nat) (0 : Nat)
  rw [hlc, hle] at L4
  have HL4 := Lib.hid L4; clear L4 hlc hle
  have hmb : meetB 6 E3 (0 : Nat) (2 : Nat) (3 : Nat) = true := by
    unfold meetB
    rw [Bool.and_eq_true, connB_nat (by decide) (by decide), connB_nat (by decide) (by decide)]
    exact ⟨⟨_, path_e3 0 2 (by omega) (by omega) (by omega)⟩, ⟨_, path_e3 2 3 (by omega) (by omega) (by omega)⟩⟩
  have hmi : meetI 6 E3 (0 : Nat) (2 : Nat) (3 : Nat) = 1 := by
    unfold meetI; rw [hmb, if_pos rfl]; exact theMeet_eq q4 meets_e3
  have hdi : distI 6 E3 (2 : Nat) (3 : Nat) = 2 := by
    unfold distI
    have hp := path_e3 2 3 (by omega) (by omega) (by omega)
    rw [if_pos ⟨rfl, rfl, _, hp⟩]
    show ((thePath E3 2 3).length : Int) - 1 = 2
    rw [thePath_eq q4 hp]; rfl
  have hcs : csize 6 E3 3 = 4 := by
    unfold csize
    have : (List.range 6).filter (fun u => decide (Conn E3 3 u)) = (List.range 6).filter (fun u => decide (u < 4)) := by
      refine List.filter_congr (fun u hu => decide_eq_decide.2 ⟨fun hc => ?_, fun h => e3_conn u h⟩)
      by_cases e : 3 = u
      · omega
      · obtain ⟨x, hx⟩ := conn_in hc e
        have := (e3_iff x u).1 hx; omega
    rw [this]; rfl
  have HQ := Lib.hid (And.intro (And.intro hmb hmi) (And.intro hdi (And.intro hcs hnc))); clear hmb hmi hdi hcs hnc q1 q2 q3 q4
  go_wp2_with fail
  refine HL4.out.mono ?_
  rintro e w5 ⟨rfl, h5, f5⟩
  go_wp2_with fail
  refine (meet_d h5 (0 : Nat) (2 : Nat) (3 : Nat)).mono ?_
  rintro e w6 ⟨rfl, h6, f6⟩
  rw [HQ.out.1.1, HQ.out.1.2]
  go_wp2_with fail
  refine (dist_d h6 (2 : Nat) (3 : Nat)).mono ?_
  rintro e w7 ⟨rfl, h7, f7⟩
  rw [HQ.out.2.1]
  go_wp2_with fail
  refine (size_w h7 (3 : Nat)).mono ?_
  rintro e w8 ⟨rfl, h8, f8⟩
  rw [if_pos (show inV 6 ((3 : Nat) : Int) = true from rfl), show ((3 : Nat) : Int).toNat = 3 from rfl, HQ.out.2.2.1]
  go_wp2_with fail
  refine (trees_w h8).mono ?_
  rintro e w9 ⟨rfl, k, rfl⟩
  rw [HQ.out.2.2.2]
  go_wp2
  go_ret
  have fx : Fr [pf, g] w1 w8 := ((((((f2.trans' f3).trans' f4).trans' f5).trans f6 (fun b hb => .inl (by simp at hb; simp [hb]))).trans f7 (fun b hb => .inl (by simp at hb; simp [hb]))).trans f8 (fun b hb => .inl (by simp at hb; simp [hb])))
  have fy : Fr [] w w8 := f1.trans fx (fun b hb => .inr (by simp at hb; omega))
  exact ⟨rfl, (fy.drewN k).below (by simp)⟩

end Go.Proofs.Ytoppjjgecgbbkaa
