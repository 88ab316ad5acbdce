/- InternNames: the plain law, and the walk. -/
import Derived.Test.YtciacnnelpijeaaSteps
import Derived.Test.YtciacnnelpijeaaFullW
namespace Go.Proofs.Ytciacnnelpijeaa
open Go.RowKit

namespace Md
/-- The same table, its ids renamed. -/
def ren (φ : Nat → Nat) (M : Md) : Md := { M with L := M.L.map (fun x => (φ x.1, x.2)) }
variable {φ : Nat → Nat} {M : Md}
theorem ren_find (hφ : ∀ x y, x < 18446744073709551616 → y < 18446744073709551616 → φ x = φ y → x = y) (hM : M.Ok) {id : Nat} (hid : id < 18446744073709551616) : (M.ren φ).find (φ id) = M.find id := by
  unfold find ren
  have hu := hM.u64
  simp only
  generalize M.L = L at *
  induction L with
  | nil => rfl
  | cons a r ih =>
    simp only [List.map_cons]
    by_cases e : a.1 = id
    · rw [List.find?_cons_of_pos (by simp [e]), List.find?_cons_of_pos (by simp [e])]; rfl
    · have e2 : φ a.1 ≠ φ id := fun h => e (hφ _ _ (hu a (by simp)) hid h)
      rw [List.find?_cons_of_neg (by simpa using e2), List.find?_cons_of_neg (by simpa using e)]
      exact ih (fun x hx => hu x (by simp [hx]))
theorem ren_next : (M.ren φ).next = M.next := rfl
theorem ren_add (id i : Nat) : (M.ren φ).add (φ id) i = (M.add id i).ren φ := by simp [add, ren]
theorem ren_rem (hφ : ∀ x y, x < 18446744073709551616 → y < 18446744073709551616 → φ x = φ y → x = y) (hM : M.Ok) {id i : Nat} (hid : id < 18446744073709551616) : (M.ren φ).rem (φ id) i = (M.rem id i).ren φ := by
  have hu := hM.u64
  simp only [rem, ren]
  congr 1
  rw [List.filter_map]
  congr 1
  apply List.filter_congr
  intro x hx
  show (φ x.1 != φ id) = (x.1 != id)
  by_cases e : x.1 = id
  · rw [e]; simp
  · have e2 : φ x.1 ≠ φ id := fun h => e (hφ _ _ (hu x hx) hid h)
    rw [bne_iff_ne.2 e2, bne_iff_ne.2 e]
theorem ren_put (hφ : ∀ x y, x < 18446744073709551616 → y < 18446744073709551616 → φ x = φ y → x = y) (hM : M.Ok) {id : Nat} (hid : id < 18446744073709551616) :
    (M.ren φ).put (φ id) = ⟨(M.put id).idx, (M.put id).added, (M.put id).err, (M.put id).M.ren φ⟩ := by
  unfold put
  rw [ren_find hφ hM hid]
  cases M.find id with
  | some i => rfl
  | none =>
    rw [ren_next]
    cases M.next with
    | none => rfl
    | some i => simp only; rw [ren_add]
theorem ren_del (hφ : ∀ x y, x < 18446744073709551616 → y < 18446744073709551616 → φ x = φ y → x = y) (hM : M.Ok) {id : Nat} (hid : id < 18446744073709551616) :
    (M.ren φ).del (φ id) = ⟨(M.del id).err, (M.del id).M.ren φ⟩ := by
  unfold del
  rw [ren_find hφ hM hid]
  cases M.find id with
  | none => rfl
  | some i => simp only; rw [ren_rem hφ hM hid]
end Md

set_option maxRecDepth 10000
set_option maxHeartbeats 400000


theorem walk_internNames (w : World) (a0 : Int) (_w0 : (Lit.int .i64 a0).wf = true) (a1 : Option Addr) (len1 cap1 : Nat) (z1 : (Nat → Int) × (Nat → Nat)) (w1 : StepsF w a1 len1 z1) (a2 : Int) (w2 : (Lit.int .u64 a2).wf = true) (a3 : Int) (w3 : (Lit.int .u64 a3).wf = true) :
    Calls Try.prog 3 #[.int .i64 a0, .slice a1 len1 cap1, .int .u64 a2, .int .u64 a3] w fun e w' => e = .returned (.bool true) ∧ Below w.heap.size w w' := by
  have b2 := bounds_u64 w2
  have b3 := bounds_u64 w3
  obtain ⟨by_, rfl⟩ := Int.eq_ofNat_of_zero_le b2.1
  obtain ⟨more, rfl⟩ := Int.eq_ofNat_of_zero_le b3.1
  obtain ⟨hl, h64, hS⟩ := w1
  obtain ⟨D, I⟩ := z1
  dsimp only at *
  have HS := Lib.hid hS; clear hS
  have H64 := Lib.hid h64; clear h64
  have hor : bits BinOp.or IntKind.u64 (by_ : Int) 1 = ((by_ ||| 1 : Nat) : Int) := u64_or _ _ (by omega) (by omega) (by omega) (by omega)
  have hodd := or_one_odd by_
  have hslt : by_ ||| 1 < 18446744073709551616 := by
    have := Nat.or_lt_two_pow (n := 64) (x := by_) (y := 1) (by omega) (by decide)
    omega
  generalize by_ ||| 1 = m at *
  have Hodd := Lib.hid hodd; clear hodd
  have hmore : more < 18446744073709551616 := by omega
  clear _w0 w2 w3 b2 b3
  obtain ⟨φ, hφ⟩ : ∃ φ : Nat → Nat, φ = fun x => (more + x * m) % 18446744073709551616 := ⟨_, rfl⟩
  have hφi : ∀ x y, x < 18446744073709551616 → y < 18446744073709551616 → φ x = φ y → x = y := by
    intro x y hx hy e
    rw [hφ] at e
    exact odd_inj Hodd.out hx hy more e
  have hφ64 : ∀ x, φ x < 18446744073709551616 := fun x => by rw [hφ]; exact Nat.mod_lt _ (by decide)
  have hφe : ∀ x : Nat, IntKind.u64.wrap (IntKind.u64.wrap ((x : Int) * (m : Int)) + (more : Int)) = ((φ x : Nat) : Int) := by
    intro x
    rw [IntKind.wrap_u64, IntKind.wrap_u64, Int.emod_add_emod, hφ]
    simp [Int.add_comm]
  have Hφi := Lib.hid hφi; clear hφi
  have Hφ := Lib.hid hφ64; clear hφ64 hφ
  by_cases h200 : 200 < len1
  · have hd : decide ((200 : Int) < (len1 : Int)) = true := decide_eq_true (by omega)
    clear hφe
    go_enter Try.func3, Try.ntmps3
    go_wp2_with (go_at_call 13; refine (works_w _).mono ?_; rintro e w3 ⟨rfl, hB3⟩)
    go_ret
    exact ⟨rfl, hB3⟩
  have hd : decide ((200 : Int) < (len1 : Int)) = false := decide_eq_false (by omega)
  by_cases hsl : a0 < 0 ∨ 65536 < a0
  · -- New refuses the number: both tables are nil
    have HSL := Lib.hid hsl; clear hsl
    clear hφe
    go_enter Try.func3, Try.ntmps3
    go_wp2_with (go_at_call 14; refine (table_new_no a0 _ HSL.out).mono ?_; rintro e w' ⟨rfl, rfl⟩)
    go_loopw [13] (fun x wr => ∃ k : Nat, k ≤ len1 ∧ x = .int .i64 k ∧ wr = w) (fun x _ => len1 - (intOf x).toNat)
    case atStart => exact ⟨0, Nat.zero_le _, rfl, rfl⟩
    case round =>
      obtain ⟨k, hk, rfl, rfl⟩ := hrel
      by_cases hlt : k < len1
      · obtain ⟨b, off, rfl, hb, c1, c2⟩ := HS.out k hlt
        have hbt : BadTable wr (.pointer none) := .inl rfl
        by_cases hdo : D k = 1
        · have hbq : (D k == 1) = true := beq_iff_eq.2 hdo
          have hdo' := Lib.hid hdo; clear hdo
          go_wp2_with (go_at_call 15; refine (bad_del _ _ _ hbt).mono ?_; rintro e w' ⟨rfl, rfl⟩)
          go_roundw
          case rel => exact ⟨k + 1, by omega, by go_num, trivial⟩
          case measure => simp [intOf]; omega
        · have hbq : (D k == 1) = false := beq_eq_false_iff_ne.2 hdo
          have hdo' := Lib.hid hdo; clear hdo
          go_wp2_with (first | (go_at_call 16; refine (bad_put _ _ _ hbt).mono ?_; rintro e w' ⟨rfl, rfl⟩) | (go_at_call 17; refine (bad_len _ _ hbt).mono ?_; rintro e w' ⟨rfl, rfl⟩))
          go_roundw
          case rel => exact ⟨k + 1, by omega, by go_num, trivial⟩
          case measure => simp [intOf]; omega
      · go_wp2_with (go_at_call 13; refine (works_w _).mono ?_; rintro e w3 ⟨rfl, hB3⟩)
        go_ret
        exact ⟨rfl, hB3⟩
  · obtain ⟨sl, rfl⟩ := Int.eq_ofNat_of_zero_le (show 0 ≤ a0 by omega)
    have hsl2 : sl ≤ 65536 := by omega
    clear hsl
    have Hφe := Lib.hid hφe; clear hφe
    go_enter Try.func3, Try.ntmps3
    go_wp2_with fail
    refine (tab_new sl w hsl2).mono ?_
    rintro e w1 ⟨pa, rfl, la, hTa, hNa⟩
    go_wp2_with fail
    refine (tab_new sl w1 hsl2).mono ?_
    rintro e w2 ⟨pb, rfl, lb, hTb, hNb⟩
    have hTa2 : TabM w2 pa (Md.new sl) la := hTa.fr hNb.1 (by simp)
    have hdis : ∀ b ∈ la, b ∉ lb := fun b hb hm => by
      have h1 := hTa.lt b hb
      have h2 := (hNb.2 b hm).resolve_left (by simp)
      omega
    have hla : ∀ b ∈ la, w.heap.size ≤ b := fun b hb => (hNa.2 b hb).resolve_left (by simp)
    have hlb : ∀ b ∈ lb, w.heap.size ≤ b := fun b hb => by have := (hNb.2 b hb).resolve_left (by simp); have := hNa.1.size; omega
    have hB2 : Below w.heap.size w w2 := (hNa.1.trans hNb.1 (by simp)).below (by simp)
    clear hTa
    go_wp2
    go_loopw [13] (fun x wr => ∃ (k : Nat) (la lb : List Nat) (M : Md), k ≤ len1 ∧ x = .int .i64 k ∧ TabM wr pa M la ∧ TabM wr pb (M.ren φ) lb ∧ Hid ((∀ b ∈ la, b ∉ lb) ∧ (∀ b ∈ la, w.heap.size ≤ b) ∧ (∀ b ∈ lb, w.heap.size ≤ b)) ∧ Below w.heap.size w wr) (fun x _ => len1 - (intOf x).toNat)
    case atStart => exact ⟨0, la, lb, Md.new sl, Nat.zero_le _, rfl, hTa2, hTb, Lib.hid ⟨hdis, hla, hlb⟩, hB2⟩
    case round =>
      clear hTa2 hTb hdis hla hlb hB2 hNa hNb
      obtain ⟨k, la, lb, M, hk, rfl, hTa, hTb, Hd, hB⟩ := hrel
      by_cases hlt : k < len1
      · obtain ⟨b, off, rfl, hb, c1, c2⟩ := HS.out k hlt
        have r1 := (hB.cell (p := ⟨b, off + k * 2, none⟩) hb).trans c1
        have r2 := (hB.cell (p := ⟨b, off + k * 2 + 1, none⟩) hb).trans c2
        clear c1 c2
        have hIk := H64.out k hlt
        have hid := Hφe.out (I k)
        have hok := hTa.ok
        by_cases hdo : D k = 1
        · have hbq : (D k == 1) = true := beq_iff_eq.2 hdo
          have hdo' := Lib.hid hdo; clear hdo
          go_wp2_with fail
          refine (tab_del (I k) hIk hTa).mono ?_
          rintro e w3 ⟨rfl, hTa3, hN3⟩
          have hTb3 : TabM w3 pb (M.ren φ) lb := hTb.fr hN3.1 (fun b hb hm => Hd.out.1 b hm hb)
          clear hid
          go_wp2_with fail
          refine (tab_del_eq (Hφ.out (I k)) hTb3 (Md.ren_del Hφi.out hok hIk)).mono ?_
          rintro e w4 ⟨rfl, hTb4, hN4⟩
          have hTa4 := hTa3.fr hN4.1 Hd.out.1
          clear r1 r2
          go_wp2
          go_roundw
          case rel =>
            refine ⟨k + 1, la, lb, _, by omega, by go_num, hTa4, hTb4, Hd, ?_⟩
            have f1 : Fr [] w wr := Fr.of_below hB
            have f2 := f1.trans hN3.1 (fun b hb => .inr (Hd.out.2.1 b hb))
            exact (f2.trans hN4.1 (fun b hb => .inr (Hd.out.2.2 b hb))).below (by simp)
          case measure => simp [intOf]; omega
        · have hbq : (D k == 1) = false := beq_eq_false_iff_ne.2 hdo
          have hdo' := Lib.hid hdo; clear hdo
          go_wp2_with fail
          refine (tab_put (I k) hIk hTa).mono ?_
          rintro e w3 ⟨rfl, la3, hTa3, hN3⟩
          have hlbs := hTb.lt
          have hTb3 : TabM w3 pb (M.ren φ) lb := hTb.fr hN3.1 (fun b hb hm => Hd.out.1 b hm hb)
          have hd3 : ∀ b ∈ la3, b ∉ lb := fun b hb hm => (hN3.2 b hb).elim (fun h => Hd.out.1 b h hm) (fun h => by have := hlbs b hm; omega)
          clear hid
          go_wp2_with fail
          refine (tab_put_eq (Hφ.out (I k)) hTb3 (Md.ren_put Hφi.out hok hIk)).mono ?_
          rintro e w4 ⟨rfl, lb4, hTb4, hN4⟩
          have hTa4 := hTa3.fr hN4.1 hd3
          have hd4 : ∀ b ∈ la3, b ∉ lb4 := fun b hb hm => (hN4.2 b hm).elim (fun h => hd3 b hb h) (fun h => by have := hTa3.lt b hb; omega)
          have hlen : ((M.put (I k)).M.ren φ).L.length = (M.put (I k)).M.L.length := by simp [Md.ren]
          have hLb := tab_len hTb4
          rw [hlen] at hLb
          have HLb := Lib.hid hLb; clear hLb hlen
          have HLa := Lib.hid (tab_len hTa4)
          clear r1 r2
          go_wp2_with fail
          refine HLa.out.mono ?_
          rintro e w5 ⟨rfl, rfl⟩
          go_wp2_with fail
          refine HLb.out.mono ?_
          rintro e w5 ⟨rfl, rfl⟩
          go_wp2
          go_roundw
          case rel =>
            have hbs := hB.size
            refine ⟨k + 1, la3, lb4, _, by omega, by go_num, hTa4, hTb4, Lib.hid ⟨hd4, fun b hb => ?_, fun b hb => ?_⟩, ?_⟩
            · rcases hN3.2 b hb with h | h
              · exact Hd.out.2.1 b h
              · omega
            · rcases hN4.2 b hb with h | h
              · exact Hd.out.2.2 b h
              · have := hN3.1.size; omega
            · have f1 : Fr [] w wr := Fr.of_below hB
              have f2 := f1.trans hN3.1 (fun b hb => .inr (Hd.out.2.1 b hb))
              exact (f2.trans hN4.1 (fun b hb => .inr (Hd.out.2.2 b hb))).below (by simp)
          case measure => simp [intOf]; omega
      · go_wp2_with (go_at_call 13; refine (works_w _).mono ?_; rintro e w3 ⟨rfl, hB3⟩)
        go_ret
        exact ⟨rfl, hB.trans (hB3.mono hB.size)⟩

end Go.Proofs.Ytciacnnelpijeaa
