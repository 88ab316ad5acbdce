/- Walks over package intern. -/
import Derived.Test.YtciacnnelpijeaaArena
namespace Go.Proofs.Ytciacnnelpijeaa
open Go.RowKit
set_option maxRecDepth 4000
set_option maxHeartbeats 400000

theorem mask_nat (j : Nat) (hj : j < 63) (x : Int) : ((BitVec.ofInt 64 x &&& BitVec.ofInt 64 ((2 : Int) ^ j - 1)).toNat : Int) = x % (2 : Int) ^ j := by
  have hp : 2 ^ j < 2 ^ 63 := Nat.pow_lt_pow_right (by decide) hj
  have hp0 : 0 < 2 ^ j := Nat.two_pow_pos j
  have hc : ((2 : Int) ^ j - 1) = ((2 ^ j - 1 : Nat) : Int) := by
    rw [Int.natCast_sub hp0]; simp
  have hd : ((2 : Int) ^ j) ∣ ((2 ^ 64 : Nat) : Int) := ⟨(2 : Int) ^ (64 - j), by rw [← Int.pow_add]; rw [show j + (64 - j) = 64 by omega]; simp⟩
  rw [hc, BitVec.toNat_and, BitVec.ofInt_natCast, BitVec.toNat_ofNat, Nat.mod_eq_of_lt (show 2 ^ j - 1 < 2 ^ 64 by omega), Nat.and_two_pow_sub_one_eq_mod, BitVec.toNat_ofInt]
  rw [Int.natCast_emod, Int.toNat_of_nonneg (Int.emod_nonneg _ (by decide))]
  simp only [Int.natCast_pow, Int.cast_ofNat_Int] at *
  exact Int.emod_emod_of_dvd x hd
theorem and_mask (j : Nat) (hj : j < 63) (x : Int) : bits .and .i64 x ((2 : Int) ^ j - 1) = x % (2 : Int) ^ j := by
  have hp : (2 : Int) ^ j < 2 ^ 63 := by exact_mod_cast Nat.pow_lt_pow_right (by decide) hj
  have hp0 : (0 : Int) < 2 ^ j := by exact_mod_cast Nat.two_pow_pos j
  have h1 := Int.emod_nonneg x (show (2 : Int) ^ j ≠ 0 by omega)
  have h2 := Int.emod_lt_of_pos x hp0
  show IntKind.i64.wrap ((BitVec.ofInt 64 x &&& BitVec.ofInt 64 ((2 : Int) ^ j - 1)).toNat : Int) = _
  rw [mask_nat j hj, IntKind.wrap_i64]
  generalize (2 : Int) ^ j = m at *
  generalize x % m = y at *
  omega
theorem and_mask_u (j : Nat) (hj : j < 63) (x : Int) : bits .and .u64 x ((2 : Int) ^ j - 1) = x % (2 : Int) ^ j := by
  have hp : (2 : Int) ^ j < 2 ^ 63 := by exact_mod_cast Nat.pow_lt_pow_right (by decide) hj
  have hp0 : (0 : Int) < 2 ^ j := by exact_mod_cast Nat.two_pow_pos j
  have h1 := Int.emod_nonneg x (show (2 : Int) ^ j ≠ 0 by omega)
  have h2 := Int.emod_lt_of_pos x hp0
  show IntKind.u64.wrap ((BitVec.ofInt 64 x &&& BitVec.ofInt 64 ((2 : Int) ^ j - 1)).toNat : Int) = _
  rw [mask_nat j hj, IntKind.wrap_u64]
  generalize (2 : Int) ^ j = m at *
  generalize x % m = y at *
  omega

/-- A mask of a power of two. -/
structure Mask (n : Nat) : Prop where
  pos : 1 < n
  le : n ≤ 131072
  i64 : ∀ x : Int, bits .and .i64 x ((n : Int) - 1) = x % n
  u64 : ∀ x : Int, bits .and .u64 x ((n : Int) - 1) = x % n
theorem Mask.mk' (j : Nat) (h0 : 1 ≤ j) (h1 : j ≤ 17) : Mask (2 ^ j) := by
  have hp : 2 ^ j ≤ 2 ^ 17 := Nat.pow_le_pow_right (by decide) h1
  have hp0 : 2 ^ 1 ≤ 2 ^ j := Nat.pow_le_pow_right (by decide) h0
  refine ⟨by omega, by omega, fun x => ?_, fun x => ?_⟩
  · have := and_mask j (by omega) x; simpa using this
  · have := and_mask_u j (by omega) x; simpa using this

/-- What 'home' makes of an id before it is cut to the table's size. -/
def mix1 (id : Int) : Int := IntKind.u64.wrap (bits BinOp.xor IntKind.u64 id (id / 8589934592) * 18397679294719823053)
def mix2 (x : Int) : Int := IntKind.u64.wrap (bits BinOp.xor IntKind.u64 x (x / 8589934592) * 14181476777654086739)
def mix3 (y : Int) : Int := bits BinOp.xor IntKind.u64 y (y / 8589934592)
def hsh (id : Int) : Int := mix3 (mix2 (mix1 id))
/-- The cell where the search for an id begins, of n. -/
def hm (n : Nat) (id : Nat) : Nat := (hsh id % n).toNat
theorem hm_lt {n : Nat} (h : 0 < n) (id : Nat) : hm n id < n := by
  unfold hm
  have := Int.emod_lt_of_pos (hsh id) (show (0 : Int) < n by omega)
  have := Int.emod_nonneg (hsh id) (show (n : Int) ≠ 0 by omega)
  omega
theorem hm_cast {n : Nat} (h : 0 < n) (id : Nat) : (hsh id % n) = (hm n id : Int) := by
  unfold hm
  have := Int.emod_nonneg (hsh id) (show (n : Int) ≠ 0 by omega)
  omega

theorem home_w (pt g n cap : Nat) (id : Nat) (w : World) (h3 : w.cell? ⟨pt, 3, none⟩ = some (.slice (some ⟨g, 0, none⟩) n cap)) (_h1 : id < 18446744073709551616) (hM : Mask n) :
    Calls Try.prog 54 #[.pointer (some ⟨pt, 0, none⟩), .int .u64 id] w fun e w' => e = .returned (.int .i64 (hm n id)) ∧ w = w' := by
  have hn := hM.pos
  have hn2 := hM.le
  have hu := hM.u64
  have hw : ∀ x : Int, wrap64 (x % n) = x % n := fun x => by
    have h1 := Int.emod_lt_of_pos x (show (0 : Int) < n by omega)
    have h2 := Int.emod_nonneg x (show (n : Int) ≠ 0 by omega)
    exact IntWalk.wrap64_in _ ⟨by omega, by omega⟩
  go_enter Try.func54, Try.ntmps54
  go_wp2
  go_ret
  refine ⟨ret_int (k := .i64) ?_, rfl⟩
  rw [← hm_cast (by omega)]
  unfold hsh mix3 mix2 mix1
  first | exact hw _ | exact rfl

end Go.Proofs.Ytciacnnelpijeaa
