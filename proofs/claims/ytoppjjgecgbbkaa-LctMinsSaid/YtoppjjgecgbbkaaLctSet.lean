/- lct: Set and Key. -/
import Derived.Test.YtoppjjgecgbbkaaLctLink
namespace Go.Proofs.Ytoppjjgecgbbkaa
open Go.RowKit Classical
set_option maxRecDepth 10000
set_option maxHeartbeats 800000

def setKey (n : Nat) (key : Nat → Int) (a : Int) (k : Int) : Nat → Int := fun v => if inV n a = true ∧ v = a.toNat then k else key v

def setCode (n : Nat) (a : Int) : Int := if inV n a then 0 else 3
def keyI (n : Nat) (key : Nat → Int) (a : Int) : Int := if inV n a then key a.toNat else 0

theorem key_w {w : World} {pf g n : Nat} {E : Nat → Nat → Prop} {key : Nat → Int} {ed : Int} (h : LG w pf g n E key ed) (a : Int) :
    Calls Try.prog 27 #[.pointer (some ⟨pf, 0, none⟩), .int .i64 a] w fun e w' => e = .returned (.int .i64 (keyI n key a)) ∧ w' = w := by
  obtain ⟨cap, σ, F, par, d, rt, hL, hF, hE, hk⟩ := h
  clear hF hE
  have HK := Lib.hid hk; clear hk
  have hN := hL.le
  have A1 := has_w hL a
  cases hva : inV n a with
  | false =>
    rw [hva] at A1
    have Hva := Lib.hid (show keyI n key a = 0 by unfold keyI; rw [hva]; rfl)
    have HA := Lib.hid A1; clear A1 hva
    go_enter Try.func27, Try.ntmps27
    go_wp2_with fail
    refine HA.out.mono ?_
    rintro _ w ⟨rfl, rfl⟩
    go_wp2
    go_ret
    exact ⟨by rw [Hva.out]; rfl, rfl⟩
  | true =>
    rw [hva] at A1
    have HA := Lib.hid A1; clear A1
    obtain ⟨v, rfl, hv⟩ := inV_nat hva
    have Hva := Lib.hid (show keyI n key (v : Int) = key v by unfold keyI; rw [hva]; rfl)
    clear hva
    have a4 := hL.nodes.c4 (v + 1) (by omega)
    rw [HK.out v hv] at a4
    have d1 := hL.hd.cell 1
    simp only [List.getElem?_cons_zero, List.getElem?_cons_succ] at d1
    have hv2 : ((v + 1 : Nat) : Int) < ((n + 1 : Nat) : Int) := by omega
    go_enter Try.func27, Try.ntmps27
    go_wp2_with fail
    refine HA.out.mono ?_
    rintro _ w ⟨rfl, rfl⟩
    go_wp2
    go_ret
    exact ⟨by rw [Hva.out]; rfl, rfl⟩

theorem set_w {w : World} {pf g n : Nat} {E : Nat → Nat → Prop} {key : Nat → Int} {ed : Int} (h : LG w pf g n E key ed) (a : Int) (k : Int) :
    Calls Try.prog 26 #[.pointer (some ⟨pf, 0, none⟩), .int .i64 a, .int .i64 k] w fun e w' => e = .returned (.int .i64 (setCode n a)) ∧ LG w' pf g n E (setKey n key a k) ed ∧ Fr [g] w w' := by
  have H := Lib.hid h
  obtain ⟨hp1, hg1, hn1⟩ := LG.lts h
  obtain ⟨cap, σ, F, par, d, rt, hL, hF, hE, hk⟩ := h
  have HF := Lib.hid hF; clear hF
  have HE := Lib.hid hE; clear hE
  have HK := Lib.hid hk; clear hk
  have hLa : LctAt (w.alloc (.cells #[.int .i64 a] 3)) pf g (n + 1) cap σ ed := hL.below ((Below.refl _ w).alloc (Nat.le_refl _) _) hp1 hg1
  have hblk := Blk.new w [.int .i64 a] 3
  have hFa : Fr [] w (w.alloc (.cells #[.int .i64 a] 3)) := (Fr.refl _ _).alloc _
  have HMa := Lib.hid (LG.fr H.out hFa (by simp) (by simp))
  have hCk := check_w hLa w.heap.size 1 (fun _ => a) (by decide) (fun k hk => by
    rw [hblk.cell]
    obtain rfl : k = 0 := by omega
    rfl)
  have HCk := Lib.hid hCk; clear hCk hblk hL
  go_enter Try.func26, Try.ntmps26
  go_wp2_with fail
  refine HCk.out.mono ?_
  rintro _ w1 ⟨hcode, rfl⟩
  clear HCk
  generalize w.alloc (.cells #[.int .i64 a] 3) = w1 at *
  rcases hcode with ⟨rfl, hall⟩ | ⟨rfl, j, hj, hbad⟩
  · have va : inV n a = true := hall 0 (by decide)
    clear hall
    obtain ⟨v, rfl, hv⟩ := inV_nat va
    have Hva := Lib.hid va; clear va
    go_wp2_with fail
    refine (expose_v hLa HF.out v hv).mono ?_
    rintro _ w2 ⟨m1, τ1, l1, R1, rfl, hL1, hE1, hF1⟩
    have HS := Lib.hid (hE1.lf.set k)
    have HE1 := Lib.hid hE1; clear hE1
    have d1 := hL1.hd.cell 1
    simp only [List.getElem?_cons_zero, List.getElem?_cons_succ] at d1
    have hfz := hL1.nodes.frozen
    have a4 := hL1.nodes.c4 (v + 1) (by omega)
    obtain ⟨hL2, hF2⟩ := hL1.st4 (Fr.refl [g] w2) (i := v + 1) (by omega) k
    have HL2 := Lib.hid (show LctAt _ pf g (n + 1) cap (set1 τ1 (v + 1) k) ed from hL2); clear hL2
    have hv2 : ((v + 1 : Nat) : Int) < ((n + 1 : Nat) : Int) := by omega
    go_wp2_with fail
    refine (refresh_v HL2.out v hv HS.out.2.2.2.2 HS.out.2.2.1 HS.out.2.2.2.1).mono ?_
    rintro _ w3 ⟨rfl, hL3, hF3⟩
    have HL3 := Lib.hid hL3; clear hL3
    go_wp2
    go_ret
    rw [show setCode n (v : Int) = 0 by unfold setCode; rw [Hva.out]; rfl]
    refine ⟨rfl, ⟨cap, _, _, par, d, rt, HL3.out, HS.out.1, HE.out, fun x hx => ?_⟩, (hFa.mono (S' := [g]) (by simp)).then (hF1.then (hF2.then hF3))⟩
    rw [HS.out.2.1]
    unfold setKey
    by_cases e : x = v
    · subst e; rw [if_pos rfl, if_pos ⟨Hva.out, by simp⟩]
    · rw [if_neg (by omega), if_neg (by simp; omega), HE1.out.key]; exact HK.out x hx
  · have hva : inV n a = false := hbad
    have Hva := Lib.hid hva; clear hva hbad
    go_wp2
    go_ret
    rw [show setCode n a = 3 by unfold setCode; rw [Hva.out]; rfl]
    refine ⟨rfl, ?_, hFa.mono (by simp)⟩
    have : setKey n key a k = key := by
      funext x; unfold setKey; rw [if_neg (by simp [Hva.out])]
    rw [this]; exact HMa.out

end Go.Proofs.Ytoppjjgecgbbkaa
