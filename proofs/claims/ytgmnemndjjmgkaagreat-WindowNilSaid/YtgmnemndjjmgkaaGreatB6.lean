/- slices.Sort at uint64: partitionOrdered. -/
import Derived.Shelf.Lay
import Derived.Shelf.Small.Bits
import Derived.Ground.Names2Prog
import Derived.Sort.Walk7
import Derived.Test.YtgmnemndjjmgkaaGreatB5
import Derived.Sort.WalkC
import Derived.Sort.WalkC4
set_option linter.unusedSimpArgs false
set_option linter.unusedVariables false
/- slices.Sort at uint64: bits.Len, nextPowerOfTwo, xorshift.Next, breakPatternsOrdered. -/
namespace Go.Proofs.YtgmnemndjjmgkaaGreat
open Go.RowKit Go.Sort
set_option maxRecDepth 10000
set_option maxHeartbeats 1600000
def Tryz.laysLen_ren : Go.Shelf.Ren := ⟨fun | 125 => 146 | 128 => 190 | 129 => 191 | n => n, fun | 46 => 207 | 3 => 3 | 51 => 256 | 53 => 26 | 4 => 4 | 5 => 5 | 9 => 9 | n => n, fun | n => n⟩
theorem Tryz.laysLen : Go.Proofs.Lays.n125 Tryz.prog Tryz.laysLen_ren := {
  mixed := by kernel_rfl
  f125 := Tryz.func146.trans (congrArg some (by kernel_rfl))
  f128 := Tryz.func190.trans (congrArg some (by kernel_rfl))
  f129 := Tryz.func191.trans (congrArg some (by kernel_rfl))
  t3 := Tryz.underlying3
  a3 := Tryz.isAgg3
  z3 := Tryz.sizeOf3
  v3 := Tryz.zeroValue3
  t4 := Tryz.underlying4
  a4 := Tryz.isAgg4
  z4 := Tryz.sizeOf4
  v4 := Tryz.zeroValue4
  t5 := Tryz.underlying5
  a5 := Tryz.isAgg5
  z5 := Tryz.sizeOf5
  v5 := Tryz.zeroValue5
  t9 := Tryz.underlying9
  a9 := Tryz.isAgg9
  z9 := Tryz.sizeOf9
  v9 := Tryz.zeroValue9
  t46 := Tryz.underlying207
  a46 := Tryz.isAgg207
  z46 := Tryz.sizeOf207
  v46 := Tryz.zeroValue207
  t51 := Tryz.underlying256
  a51 := Tryz.isAgg256
  z51 := Tryz.sizeOf256
  v51 := Tryz.zeroValue256
  t53 := Tryz.underlying26
  a53 := Tryz.isAgg26
  z53 := Tryz.sizeOf26
  v53 := Tryz.zeroValue26 }
theorem len_u (n : Nat) (hn : n < 4611686018427387904) (w : World) : Calls Tryz.prog 146 #[.int .u64 (n : Int)] w fun e w' => e = .returned (.int .i64 (bitsLen n : Nat)) ∧ w' = w := by
 have h := Any.bits_Len Tryz.laysLen (n : Int) w (by omega) (by omega)
 rwa [Int.toNat_natCast, bitLen_eq _ (by omega)] at h
theorem pow_u (n : Nat) (hn : n < 4611686018427387904) (w : World) :
    Calls Tryz.prog 209 #[.int .i64 n] w fun e w' => e = .returned (.int .u64 ((1 <<< bitsLen n : Nat) : Int)) ∧ w' = w := by
 have hk : bitsLen n ≤ 62 := (bitsLen_le_iff n 62).2 (by omega)
 have hp := wrap_two_pow (bitsLen n) hk
 have HL := Lib.hid (len_u n hn w)
 generalize (1 <<< bitsLen n : Nat) = M at *
 generalize bitsLen n = k at *
 go_enter Tryz.func209, Tryz.ntmps209
 go_wp2_with (first | (go_at_call 146; refine HL.out.mono ?_; rintro e w' ⟨rfl, rfl⟩))
 go_ret
 exact ⟨rfl, rfl⟩
structure SX (w wr : World) (blk off : Nat) (d : Array Int) (rb R : Nat) : Prop where
  sr : SR w wr blk off d
  cnt : Blk wr rb 263 [.int .u64 R]
  ne : rb ≠ blk
  new : w.heap.size ≤ rb
section
variable {w wr : World} {blk off : Nat} {d : Array Int} {rb R : Nat}
theorem SX.drewN (h : SX w wr blk off d rb R) (q : Nat) : SX w (wr.drewN q) blk off d rb R := ⟨h.sr.drewN q, h.cnt.drewN q, h.ne, h.new⟩
theorem SX.bump (h : SX w wr blk off d rb R) (t : Nat) : SX w (wr.setCell ⟨rb, 0, none⟩ (.int .u64 t)) blk off d rb t := ⟨h.sr.other _ h.new h.ne, h.cnt.set 0 _, h.ne, h.new⟩
theorem SX.swapD (h : SX w wr blk off d rb R) {i j : Nat} (hi : i < d.size) (hj : j < d.size) :
    SX w ((wr.setCell ⟨blk, off + i, none⟩ (.int .u64 d[j]!)).setCell ⟨blk, off + j, none⟩ (.int .u64 d[i]!)).drew blk off (swp d i j) rb R :=
  ⟨h.sr.swapD hi hj, ((h.cnt.other _ _ h.ne).other _ _ h.ne).drewN 1, h.ne, h.new⟩
theorem next_u (h : SX w wr blk off d rb R) (hR : R < 18446744073709551616) :
    Calls Tryz.prog 210 #[.pointer (some ⟨rb, 0, none⟩)] wr fun e w' => e = .returned (.int .u64 (xorNextN R : Nat)) ∧ SX w w' blk off d rb (xorNextN R) := by
 obtain ⟨x, hx⟩ : ∃ x : Nat, x = R ^^^ (R * 8192 % 18446744073709551616) := ⟨_, rfl⟩
 obtain ⟨y, hy⟩ : ∃ y : Nat, y = x ^^^ (x / 128) := ⟨_, rfl⟩
 obtain ⟨z, hz⟩ : ∃ z : Nat, z = y ^^^ (y * 131072 % 18446744073709551616) := ⟨_, rfl⟩
 have lx : x < 18446744073709551616 := by rw [hx]; exact Nat.xor_lt_two_pow (n := 64) (by omega) (by omega)
 have ly : y < 18446744073709551616 := by rw [hy]; exact Nat.xor_lt_two_pow (n := 64) (by omega) (by omega)
 have q1 : bits .xor .u64 (R : Int) (IntKind.u64.wrap ((R : Int) * 8192)) = (x : Int) := by rw [IntKind.wrap_u64, show ((R : Int) * 8192 % 18446744073709551616) = ((R * 8192 % 18446744073709551616 : Nat) : Int) by omega, bits_xor_u64_nat _ _ hR (by omega), hx]
 have q2 : bits .xor .u64 (x : Int) ((x : Int) / 128) = (y : Int) := by rw [show ((x : Int) / 128) = ((x / 128 : Nat) : Int) by omega, bits_xor_u64_nat _ _ lx (by omega), hy]
 have q3 : bits .xor .u64 (y : Int) (IntKind.u64.wrap ((y : Int) * 131072)) = (z : Int) := by rw [IntKind.wrap_u64, show ((y : Int) * 131072 % 18446744073709551616) = ((y * 131072 % 18446744073709551616 : Nat) : Int) by omega, bits_xor_u64_nat _ _ ly (by omega), hz]
 have hv : xorNextN R = z := by unfold xorNextN; simp only []; rw [← hx, ← hy, ← hz]
 rw [hv]
 clear hx hy hz hv
 have c0 := h.cnt.cell 0
 have f0 := h.cnt.frozen 0
 simp only [List.getElem?_cons_zero] at c0
 have hss : ∀ v v', (wr.setCell ⟨rb, 0, none⟩ v).setCell ⟨rb, 0, none⟩ v' = wr.setCell ⟨rb, 0, none⟩ v' := setCell_setCell wr rb 0
 have HS := Lib.hid h; clear h
 go_enter Tryz.func210, Tryz.ntmps210
 go_wp2
 go_region
 all_goals go_wp2
 all_goals go_region
 all_goals go_wp2
 all_goals go_region
 all_goals go_wp2
 go_ret
 exact ⟨rfl, (HS.out.bump z).drewN 3⟩
end
theorem break_u {w wr : World} {blk off cap a b n : Nat} {d : Array Int} (h : SR w wr blk off d) (hn : d.size = n) (hab : a ≤ b) (hb : b ≤ n) (hsz : n < 4611686018427387904) :
    Calls Tryz.prog 215 #[.slice (some ⟨blk, off, none⟩) n cap, .int .i64 a, .int .i64 b] wr fun e w' => e = .returned (.tuple #[]) ∧ SR w w' blk off (breakPatterns d a b) := by
 obtain ⟨m, hm⟩ : ∃ m : Nat, m = b - a := ⟨_, rfl⟩
 have hmi : (b : Int) - (a : Int) = (m : Int) := by omega
 by_cases h8 : 8 ≤ m
 {
 obtain ⟨q, hq⟩ : ∃ q : Nat, q = m / 4 := ⟨_, rfl⟩
 have hqi : ((m : Int)).tdiv 4 = (q : Int) := by rw [Int.tdiv_eq_ediv_of_nonneg (by omega)]; omega
 obtain ⟨M, hM⟩ : ∃ M : Nat, M = 1 <<< bitsLen m := ⟨_, rfl⟩
 have hM1 : 1 ≤ M := by rw [hM, Nat.one_shiftLeft]; exact Nat.two_pow_pos _
 have hM2 : M ≤ 2 * m := by rw [hM, Nat.one_shiftLeft]; exact two_pow_bitsLen_le (by omega)
 have hNP : ∀ w, Calls Tryz.prog 209 #[.int .i64 (m : Int)] w fun e w' => e = .returned (.int .u64 (M : Int)) ∧ w' = w := by rw [hM]; exact fun w => pow_u m (by omega) w
 obtain ⟨i0, hi0⟩ : ∃ i0 : Nat, i0 = a + q * 2 - 1 := ⟨_, rfl⟩
 have HE := Lib.hid (show breakPatterns d a b = bpRest a m M i0 3 0 (UInt64.ofNat m, d) by
   rw [show b = a + m by omega, breakPatterns_eq d a m h8, hM, hi0, hq])
 have hsx : SX w (wr.alloc (.cells #[.int .u64 (m : Int)] 263)) blk off d wr.heap.size (UInt64.ofNat m).toNat := by {
 have e : (UInt64.ofNat m).toNat = m := by simp; omega
 rw [e]
 exact ⟨h.alloc _, Blk.new wr [.int .u64 (m : Int)] 263, by have := h.lt; omega, h.fr.size⟩
 }
 have HX := Lib.hid hsx; clear hsx
 have HNP := Lib.hid hNP; clear hNP
 have hi0i : (a : Int) + q * 2 - 1 = (i0 : Int) := by omega
 have hend : (a : Int) + q * 2 + 1 = (i0 : Int) + 2 := by omega
 have hamn : a + m ≤ n := by omega
 have hi0n : i0 + 3 ≤ a + m := by omega
 have hq2 : a + q * 2 + 1 ≤ n := by omega
 have ham0 : a ≤ i0 := by omega
 clear hM hm hq hi0 h
 go_enter Tryz.func215, Tryz.ntmps215
 go_wp2_with fail
 refine (HNP.out _).mono ?_
 rintro _ _ ⟨rfl, rfl⟩
 go_wp2
 go_loopw [9] (fun vi wr2 => ∃ (t : Nat) (r : UInt64) (dk : Array Int), vi = .int .i64 ((i0 + t : Nat) : Int) ∧ t ≤ 3 ∧ dk.size = n ∧ Hid (SX w wr2 blk off dk wr.heap.size r.toNat) ∧
   Hid (bpRest a m M i0 (3 - t) t (r, dk) = bpRest a m M i0 3 0 (UInt64.ofNat m, d))) (fun vi _ => i0 + 3 - (intOf vi).toNat)
 case atStart => exact ⟨0, UInt64.ofNat m, d, rfl, by omega, hn, HX, Lib.hid rfl⟩
 case round =>
  clear HX
  obtain ⟨t, r, dk, rfl, ht, hsk, HX, HR⟩ := hrel
  obtain ⟨it, hit⟩ : ∃ it : Nat, it = i0 + t := ⟨_, rfl⟩
  rw [← hit]
  by_cases ht3 : t < 3
  {
  have hd : decide ((it : Int) ≤ (i0 : Int) + 2) = true := decide_eq_true (by omega)
  obtain ⟨R', hR'⟩ : ∃ R' : Nat, R' = xorNextN r.toNat := ⟨_, rfl⟩
  have lR' : R' < 18446744073709551616 := by rw [hR']; exact xorNextN_lt _ r.toNat_lt
  have HNx := next_u HX.out r.toNat_lt
  rw [← hR'] at HNx
  have HNx := Lib.hid HNx
  obtain ⟨O, hO⟩ : ∃ O : Nat, O = R' &&& (M - 1) := ⟨_, rfl⟩
  have lO : O ≤ M - 1 := by rw [hO]; exact Nat.and_le_right
  have eAnd : bits .and .u64 (R' : Int) ((M : Int) - 1) = (O : Int) := by rw [show ((M : Int) - 1) = ((M - 1 : Nat) : Int) by omega, bits_and_u64_nat _ _ lR' (by omega), hO]
  have eR : R' = (xorNext r).toNat := by rw [hR', xorNext_toNat]
  have hOx : O = (xorNext r).toNat &&& (M - 1) := by rw [hO, eR]
  have hfin : ∃ o : Nat, o < m ∧ (if O ≥ m then O - m else O) = o := by {
  refine ⟨_, ?_, rfl⟩
  split <;> omega
  }
  obtain ⟨o, hom, hoe⟩ := hfin
  obtain ⟨p, hp⟩ : ∃ p : Nat, p = a + o := ⟨_, rfl⟩
  have wp : IntKind.i64.wrap ((a : Int) + o) = (p : Int) := wrapN (by omega) (by omega)
  have HRn := Lib.hid (show bpRest a m M i0 (3 - (t + 1)) (t + 1) (xorNext r, swp dk it p) = bpRest a m M i0 3 0 (UInt64.ofNat m, d) by
    rw [← HR.out, bp_step a m M i0 t r dk o ht3 (by rw [← hOx]; exact hoe), hit, hp])
  have HeR := Lib.hid eR
  have hpn : p < n := by omega
  have hitn : it < n := by omega
  have Hit := Lib.hid hit
  have hoc : (m ≤ O ∧ (O : Int) - m = (o : Int)) ∨ (¬ m ≤ O ∧ O = o) := by {
  by_cases hc : m ≤ O
  · rw [if_pos hc] at hoe; exact .inl ⟨hc, by omega⟩
  · rw [if_neg hc] at hoe; exact .inr ⟨hc, hoe⟩
  }
  clear hR' hO hOx eR hoe hp hit
  have pn : (p : Int) < n := by omega
  have itn : (it : Int) < n := by omega
  go_wp2_with fail
  refine HNx.out.mono ?_
  rintro _ w2 ⟨rfl, hX2⟩
  obtain ⟨G, hG⟩ : ∃ G : Nat → Int, ∀ x, dk[x]! = G x := ⟨fun x => dk[x]!, fun _ => rfl⟩
  have cp : w2.cell? ⟨blk, off + p, none⟩ = some (.int .u64 (G p)) := by rw [hX2.sr.cell (by omega), hG]
  have ci : w2.cell? ⟨blk, off + it, none⟩ = some (.int .u64 (G it)) := by rw [hX2.sr.cell (by omega), hG]
  have fp : w2.frozen? ⟨blk, off + p, none⟩ = false := hX2.sr.frozen _
  have fi : w2.frozen? ⟨blk, off + it, none⟩ = false := hX2.sr.frozen _
  have hsw := hX2.swapD (i := it) (j := p) (by omega) (by omega)
  rw [hG, hG] at hsw
  have HSw := Lib.hid hsw; clear hsw hX2 hG
  rcases hoc with ⟨hc1, hc2⟩ | ⟨hc1, rfl⟩
  {
  by_cases hEq : it = p
  {
  subst hEq
  go_wp2
  go_region
  all_goals go_wp2
  go_roundw
  case rel => exact ⟨t + 1, xorNext r, _, by rw [Hit.out]; go_num, by omega, by rw [size_swp]; exact hsk, Lib.hid (by rw [← HeR.out]; exact HSw.out), HRn⟩
  case measure => simp [intOf]; have := Hit.out; omega
  }
  {
  have hEq2 : p ≠ it := fun e => hEq e.symm
  go_wp2
  go_region
  all_goals go_wp2
  go_roundw
  case rel => exact ⟨t + 1, xorNext r, _, by rw [Hit.out]; go_num, by omega, by rw [size_swp]; exact hsk, Lib.hid (by rw [← HeR.out]; exact HSw.out), HRn⟩
  case measure => simp [intOf]; have := Hit.out; omega
  }
  }
  {
  by_cases hEq : it = p
  {
  subst hEq
  go_wp2
  go_region
  all_goals go_wp2
  go_roundw
  case rel => exact ⟨t + 1, xorNext r, _, by rw [Hit.out]; go_num, by omega, by rw [size_swp]; exact hsk, Lib.hid (by rw [← HeR.out]; exact HSw.out), HRn⟩
  case measure => simp [intOf]; have := Hit.out; omega
  }
  {
  have hEq2 : p ≠ it := fun e => hEq e.symm
  go_wp2
  go_region
  all_goals go_wp2
  go_roundw
  case rel => exact ⟨t + 1, xorNext r, _, by rw [Hit.out]; go_num, by omega, by rw [size_swp]; exact hsk, Lib.hid (by rw [← HeR.out]; exact HSw.out), HRn⟩
  case measure => simp [intOf]; have := Hit.out; omega
  }
  }
  }
  {
  have hd : decide ((it : Int) ≤ (i0 : Int) + 2) = false := decide_eq_false (by omega)
  obtain rfl : t = 3 := by omega
  clear hit
  go_wp2
  go_end0
  exact ⟨rfl, by rw [HE.out, ← HR.out]; exact HX.out.sr⟩
  }
 }
 {
 have e : breakPatterns d a b = d := by unfold breakPatterns; rw [if_neg (by omega)]
 rw [e]
 have HS := Lib.hid h; clear h e
 go_enter Tryz.func215, Tryz.ntmps215
 go_wp2
 go_end0
 exact ⟨rfl, HS.out⟩
 }
end Go.Proofs.YtgmnemndjjmgkaaGreat

/- slices.Sort at uint64: partitionEqualOrdered. -/
namespace Go.Proofs.YtgmnemndjjmgkaaGreat
open Go.RowKit Go.Sort
set_option maxRecDepth 10000
set_option maxHeartbeats 3200000
theorem peq_u {w wr : World} {blk off cap a b pivot n : Nat} {d : Array Int} (h : SR w wr blk off d) (hn : d.size = n) (hap : a ≤ pivot) (hpb : pivot < b) (hb : b ≤ n) (hsz : n < 4611686018427387904) :
    Calls Tryz.prog 220 #[.slice (some ⟨blk, off, none⟩) n cap, .int .i64 a, .int .i64 b, .int .i64 pivot] wr fun e w' => e = .returned (.int .i64 (partitionEqual ltInt d a b pivot).1) ∧ SR w w' blk off (partitionEqual ltInt d a b pivot).2 := by
 obtain ⟨G, hG⟩ : ∃ G : Nat → Int, ∀ t, d[t]! = G t := ⟨fun t => d[t]!, fun _ => rfl⟩
 have ca : wr.cell? ⟨blk, off + a, none⟩ = some (.int .u64 (G a)) := by rw [h.cell (by omega), hG]
 have fa : wr.frozen? ⟨blk, off + a, none⟩ = false := h.frozen _
 have cp : wr.cell? ⟨blk, off + pivot, none⟩ = some (.int .u64 (G pivot)) := by rw [h.cell (by omega), hG]
 have fp : wr.frozen? ⟨blk, off + pivot, none⟩ = false := h.frozen _
 have an : (a : Int) < n := by omega
 have pn : (pivot : Int) < n := by omega
 have hsw := h.swapD (i := a) (j := pivot) (by omega) (by omega)
 rw [hG, hG] at hsw
 have HS := Lib.hid hsw; clear hsw h hG
 have HL : Hid (partEqLoop ltInt a (a + 1) (b - 1) (swp d a pivot) = partitionEqual ltInt d a b pivot) := Lib.hid rfl
 generalize partitionEqual ltInt d a b pivot = res at *
 go_enter Tryz.func220, Tryz.ntmps220
 go_wp2
 by_cases hEq : a = pivot
 case' pos =>
  subst hEq
  go_region
  all_goals go_wp2
  have hsz0 : (swp d a a).size = n := by rw [size_swp]; exact hn
  generalize swp d a a = d0 at *
  generalize ((wr.setCell ⟨blk, off + a, none⟩ (.int .u64 (G a))).setCell ⟨blk, off + a, none⟩ (.int .u64 (G a))).drew = w1 at *
 case' neg =>
  have ne1 : pivot ≠ a := fun e => hEq e.symm
  go_region
  all_goals go_wp2
  have hsz0 : (swp d a pivot).size = n := by rw [size_swp]; exact hn
  generalize swp d a pivot = d0 at *
  generalize ((wr.setCell ⟨blk, off + a, none⟩ (.int .u64 (G pivot))).setCell ⟨blk, off + pivot, none⟩ (.int .u64 (G a))).drew = w1 at *
 all_goals
  clear ca fa cp fp
  go_loopw [9, 10] (fun vi vj wr => ∃ (i j : Nat) (dk : Array Int), vi = .int .i64 i ∧ vj = .int .i64 j ∧ a + 1 ≤ i ∧ i ≤ j + 1 ∧ j < b ∧ dk.size = n ∧ Hid (SR w wr blk off dk) ∧ Hid (partEqLoop ltInt a i j dk = res)) (fun vi vj _ => (intOf vj + 1 - intOf vi).toNat)
  case atStart => exact ⟨a + 1, b - 1, d0, by go_num, by congr 1; omega, by omega, by omega, by omega, hsz0, HS, HL⟩
  case round =>
   clear HS HL
   obtain ⟨i, j, dk, rfl, rfl, hai, hij1, hjb, hsk, HS, HL⟩ := hrel
   obtain ⟨G, hG⟩ : ∃ G : Nat → Int, ∀ t, dk[t]! = G t := ⟨fun t => dk[t]!, fun _ => rfl⟩
   have HG := Lib.hid hG; clear hG
   go_wp2
   go_loopw [9] (fun vi wr2 => ∃ (i2 : Nat), vi = .int .i64 i2 ∧ i ≤ i2 ∧ i2 ≤ j + 1 ∧ Hid (SR w wr2 blk off dk) ∧ Hid (scanUp (fun x => !ltInt dk[a]! x) dk j i2 = scanUp (fun x => !ltInt dk[a]! x) dk j i)) (fun vi _ => j + 1 - (intOf vi).toNat)
   case atStart => exact ⟨i, rfl, Nat.le_refl _, by omega, HS, Lib.hid rfl⟩
   case round =>
    clear HS
    obtain ⟨i2, rfl, hi2a, hi2b, HS, HU⟩ := hrel
    by_cases hij : i2 ≤ j
    case' pos =>
     have hd : decide (i2 ≤ j) = true := decide_eq_true hij
     have an : (a : Int) < n := by omega
     have in2 : (i2 : Int) < n := by omega
     have ci : wr.cell? ⟨blk, off + i2, none⟩ = some (.int .u64 (G i2)) := by rw [HS.out.cell (by omega), HG.out]
     have ca : wr.cell? ⟨blk, off + a, none⟩ = some (.int .u64 (G a)) := by rw [HS.out.cell (by omega), HG.out]
     cases hl : ltInt (G a) (G i2)
     case false =>
      have HU2 := Lib.hid (show scanUp (fun x => !ltInt dk[a]! x) dk j (i2 + 1) = scanUp (fun x => !ltInt dk[a]! x) dk j i by rw [← HU.out, scanUp_go (fun x => !ltInt dk[a]! x) dk j i2 hij (by simp only [HG.out, hl]; rfl)])
      go_wp2
      go_quiet (first | (go_at_call 219; refine Calls.quiet_of_same (less_is hl _)))
      go_wp2
      go_roundw
      case rel => exact ⟨i2 + 1, by go_num, by omega, by omega, Lib.hid (HS.out.drewN nq), HU2⟩
      case measure => simp [intOf]; omega
     have hI : i2 = scanUp (fun x => !ltInt dk[a]! x) dk j i := by rw [← HU.out, scanUp_end (fun x => !ltInt dk[a]! x) dk j i2 (.inr (by simp only [HG.out, hl]; rfl))]
     have HI := Lib.hid hI; clear hI
     go_wp2
     go_quiet (first | (go_at_call 219; refine Calls.quiet_of_same (less_is hl _)))
     go_wp2
     have HS := Lib.hid (HS.out.drewN nq)
     generalize wr.drewN nq = wq at *
     clear hl ci ca hd
    case' neg =>
     have hd : decide (i2 ≤ j) = false := decide_eq_false hij
     have hI : i2 = scanUp (fun x => !ltInt dk[a]! x) dk j i := by rw [← HU.out, scanUp_end (fun x => !ltInt dk[a]! x) dk j i2 (.inl hij)]
     have HI := Lib.hid hI; clear hI
     go_wp2
     go_quiet (first | (go_at_call 219; refine Calls.quiet_of_same (less_is rfl _)))
     go_wp2
     have HS := Lib.hid (HS.out.drewN nq)
     generalize wr.drewN nq = wq at *
     clear hd hij
    all_goals
     go_loopw [10] (fun vj wr3 => ∃ (j2 : Nat), vj = .int .i64 j2 ∧ i2 ≤ j2 + 1 ∧ j2 ≤ j ∧ Hid (SR w wr3 blk off dk) ∧ Hid (scanDown (fun x => ltInt dk[a]! x) dk i2 j2 = scanDown (fun x => ltInt dk[a]! x) dk i2 j)) (fun vj _ => (intOf vj).toNat)
     case atStart => exact ⟨j, rfl, by omega, Nat.le_refl _, HS, Lib.hid rfl⟩
     case round =>
      clear HS
      obtain ⟨j2, rfl, hj2a, hj2b, HS, HD⟩ := hrel
      by_cases hij : i2 ≤ j2
      {
      have hd : decide (i2 ≤ j2) = true := decide_eq_true hij
      have an : (a : Int) < n := by omega
      have jn : (j2 : Int) < n := by omega
      have ci : wr.cell? ⟨blk, off + j2, none⟩ = some (.int .u64 (G j2)) := by rw [HS.out.cell (by omega), HG.out]
      have ca : wr.cell? ⟨blk, off + a, none⟩ = some (.int .u64 (G a)) := by rw [HS.out.cell (by omega), HG.out]
      cases hl : ltInt (G a) (G j2) with
      | true => {
      have HD2 := Lib.hid (show scanDown (fun x => ltInt dk[a]! x) dk i2 (j2 - 1) = scanDown (fun x => ltInt dk[a]! x) dk i2 j by rw [← HD.out, scanDown_go (fun x => ltInt dk[a]! x) dk i2 j2 hij (by omega) (by simp only [HG.out, hl])])
      go_wp2
      go_quiet (first | (go_at_call 219; refine Calls.quiet_of_same (less_is hl _)))
      go_wp2
      go_roundw
      case rel => exact ⟨j2 - 1, by congr 1; omega, by omega, by omega, Lib.hid (HS.out.drewN nq), HD2⟩
      case measure => simp [intOf]; omega
      }
      | false => {
      have hJ : j2 = scanDown (fun x => ltInt dk[a]! x) dk i2 j := by rw [← HD.out, scanDown_end (fun x => ltInt dk[a]! x) dk i2 j2 (.inr (by simp only [HG.out, hl]))]
      have HJ := Lib.hid hJ; clear hJ
      have fi : wr.frozen? ⟨blk, off + j2, none⟩ = false := HS.out.frozen _
      have fi2 : wr.frozen? ⟨blk, off + i2, none⟩ = false := HS.out.frozen _
      have ci2 : wr.cell? ⟨blk, off + i2, none⟩ = some (.int .u64 (G i2)) := by rw [HS.out.cell (by omega), HG.out]
      have in2 : (i2 : Int) < n := by omega
      have hne : i2 < j2 := scans_lt ltInt a i j dk (by omega) HI.out HJ.out hij
      have ne1 : i2 ≠ j2 := by omega
      have ne2 : j2 ≠ i2 := by omega
      have hgt : decide (i2 > j2) = false := decide_eq_false (by omega)
      go_wp2
      go_quiet (first | (go_at_call 219; refine Calls.quiet_of_same (less_is hl _)))
      go_wp2
      go_region
      all_goals go_wp2
      go_roundw
      case rel =>
       refine ⟨i2 + 1, j2 - 1, swp dk i2 j2, by go_num, by congr 1; omega, by omega, by omega, by omega, by rw [size_swp]; exact hsk, Lib.hid ?_, Lib.hid ?_⟩
       {
       have := HS.out.swap (nq + 1) (i := i2) (j := j2) (by omega) (by omega)
       rw [HG.out, HG.out] at this
       exact this
       }
       · rw [← HL.out, partEq_go ltInt a i j dk HI.out HJ.out (by omega)]
      case measure => simp [intOf]; omega
      }
      }
      {
      have hd : decide (i2 ≤ j2) = false := decide_eq_false hij
      have hJ : j2 = scanDown (fun x => ltInt dk[a]! x) dk i2 j := by rw [← HD.out, scanDown_end (fun x => ltInt dk[a]! x) dk i2 j2 (.inl hij)]
      have HJ := Lib.hid hJ; clear hJ
      have hgt : decide (i2 > j2) = true := decide_eq_true (by omega)
      go_wp2
      go_quiet (first | (go_at_call 219; refine Calls.quiet_of_same (less_is rfl _)))
      go_wp2
      go_ret
      exact ⟨by rw [← HL.out, partEq_break ltInt a i j dk HI.out HJ.out (by omega)]; rfl, by rw [← HL.out, partEq_break ltInt a i j dk HI.out HJ.out (by omega)]; exact HS.out.drewN nq⟩
      }
end Go.Proofs.YtgmnemndjjmgkaaGreat

namespace Go.Proofs.YtgmnemndjjmgkaaGreat
open Go.RowKit Go.Sort
set_option maxRecDepth 10000
set_option maxHeartbeats 12800000
theorem part_u {w wr : World} {blk off cap a b pivot n : Nat} {d : Array Int} (h : SR w wr blk off d) (hn : d.size = n) (hap : a ≤ pivot) (hpb : pivot < b) (hb : b ≤ n) (hsz : n < 4611686018427387904) :
    Calls Tryz.prog 221 #[.slice (some ⟨blk, off, none⟩) n cap, .int .i64 a, .int .i64 b, .int .i64 pivot] wr fun e w' =>
      e = .returned (.tuple #[.int .i64 (partition ltInt d a b pivot).1, .bool (partition ltInt d a b pivot).2.1]) ∧ SR w w' blk off (partition ltInt d a b pivot).2.2 := by
 obtain ⟨G, hG⟩ : ∃ G : Nat → Int, ∀ t, d[t]! = G t := ⟨fun t => d[t]!, fun _ => rfl⟩
 have ca : wr.cell? ⟨blk, off + a, none⟩ = some (.int .u64 (G a)) := by rw [h.cell (by omega), hG]
 have fa : wr.frozen? ⟨blk, off + a, none⟩ = false := h.frozen _
 have cp : wr.cell? ⟨blk, off + pivot, none⟩ = some (.int .u64 (G pivot)) := by rw [h.cell (by omega), hG]
 have fp : wr.frozen? ⟨blk, off + pivot, none⟩ = false := h.frozen _
 have an : (a : Int) < n := by omega
 have pn : (pivot : Int) < n := by omega
 have hsw := h.swapD (i := a) (j := pivot) (by omega) (by omega)
 rw [hG, hG] at hsw
 have HS := Lib.hid hsw; clear hsw h hG
 obtain ⟨i, hi⟩ : ∃ i : Nat, i = a + 1 := ⟨_, rfl⟩
 obtain ⟨j, hj⟩ : ∃ j : Nat, j = b - 1 := ⟨_, rfl⟩
 have hii : (a : Int) + 1 = (i : Int) := by omega
 have hji : (b : Int) - 1 = (j : Int) := by omega
 have hai : a + 1 ≤ i := by omega
 have hij1 : i ≤ j + 1 := by omega
 have hjb : j < b := by omega
 have Hij := Lib.hid (And.intro hi hj); clear hi hj
 obtain ⟨res, hres⟩ : ∃ res, partition ltInt d a b pivot = res := ⟨_, rfl⟩
 rw [hres]
 have HR0 := Lib.hid hres; clear hres
 go_enter Tryz.func221, Tryz.ntmps221
 go_wp2
 by_cases hEq : a = pivot
 case' pos =>
  have HEq := Lib.hid hEq
  rw [← hEq] at HS cp fp ⊢
  clear hEq
  go_region
  all_goals go_wp2
  obtain ⟨dk, hdk⟩ : ∃ dk, dk = swp d a pivot := ⟨_, rfl⟩
  have hsk : dk.size = n := by rw [hdk, size_swp]; exact hn
  have Hdk := Lib.hid hdk
  rw [← HEq.out] at hdk
  rw [← hdk] at HS
  clear hdk
  generalize ((wr.setCell ⟨blk, off + a, none⟩ (.int .u64 (G a))).setCell ⟨blk, off + a, none⟩ (.int .u64 (G a))).drew = w1 at *
 case' neg =>
  have ne1 : pivot ≠ a := fun e => hEq e.symm
  go_region
  all_goals go_wp2
  obtain ⟨dk, hdk⟩ : ∃ dk, dk = swp d a pivot := ⟨_, rfl⟩
  have hsk : dk.size = n := by rw [hdk, size_swp]; exact hn
  have Hdk := Lib.hid hdk
  rw [← hdk] at HS
  clear hdk
  generalize ((wr.setCell ⟨blk, off + a, none⟩ (.int .u64 (G pivot))).setCell ⟨blk, off + pivot, none⟩ (.int .u64 (G a))).drew = w1 at *
 all_goals
  clear ca fa cp fp
  obtain ⟨G, hG⟩ : ∃ G : Nat → Int, ∀ t, dk[t]! = G t := ⟨fun t => dk[t]!, fun _ => rfl⟩
  have HG := Lib.hid hG; clear hG
  go_loopw [10] (fun vi wr2 => ∃ (i2 : Nat), vi = .int .i64 i2 ∧ i ≤ i2 ∧ i2 ≤ j + 1 ∧ Hid (SR w wr2 blk off dk) ∧ Hid (scanUp (fun x => ltInt x dk[a]!) dk j i2 = scanUp (fun x => ltInt x dk[a]!) dk j i)) (fun vi _ => j + 1 - (intOf vi).toNat)
  case atStart => exact ⟨i, rfl, Nat.le_refl _, by omega, HS, Lib.hid rfl⟩
  case round =>
   clear HS
   obtain ⟨i2, rfl, hi2a, hi2b, HS, HU⟩ := hrel
   by_cases hij : i2 ≤ j
   case' pos =>
    have hd : decide (i2 ≤ j) = true := decide_eq_true hij
    have an : (a : Int) < n := by omega
    have in2 : (i2 : Int) < n := by omega
    have ci : wr.cell? ⟨blk, off + i2, none⟩ = some (.int .u64 (G i2)) := by rw [HS.out.cell (by omega), HG.out]
    have ca : wr.cell? ⟨blk, off + a, none⟩ = some (.int .u64 (G a)) := by rw [HS.out.cell (by omega), HG.out]
    cases hl : ltInt (G i2) (G a)
    case true =>
     have HU2 := Lib.hid (show scanUp (fun x => ltInt x dk[a]!) dk j (i2 + 1) = scanUp (fun x => ltInt x dk[a]!) dk j i by rw [← HU.out, scanUp_go (fun x => ltInt x dk[a]!) dk j i2 hij (by simp only [HG.out, hl])])
     go_wp2
     go_quiet (first | (go_at_call 219; refine Calls.quiet_of_same (less_is hl _)))
     go_wp2
     go_roundw
     case rel => exact ⟨i2 + 1, by go_num, by omega, by omega, Lib.hid (HS.out.drewN nq), HU2⟩
     case measure => simp [intOf]; omega
    have hI : i2 = scanUp (fun x => ltInt x dk[a]!) dk j i := by rw [← HU.out, scanUp_end (fun x => ltInt x dk[a]!) dk j i2 (.inr (by simp only [HG.out, hl]))]
    have HI := Lib.hid hI; clear hI
    go_wp2
    go_quiet (first | (go_at_call 219; refine Calls.quiet_of_same (less_is hl _)))
    go_wp2
    have HS := Lib.hid (HS.out.drewN nq)
    generalize wr.drewN nq = wq at *
    clear hl ci ca hd
   case' neg =>
    have hd : decide (i2 ≤ j) = false := decide_eq_false hij
    have hI : i2 = scanUp (fun x => ltInt x dk[a]!) dk j i := by rw [← HU.out, scanUp_end (fun x => ltInt x dk[a]!) dk j i2 (.inl hij)]
    have HI := Lib.hid hI; clear hI
    go_wp2
    go_quiet (first | (go_at_call 219; refine Calls.quiet_of_same (less_is rfl _)))
    go_wp2
    have HS := Lib.hid (HS.out.drewN nq)
    generalize wr.drewN nq = wq at *
    clear hd hij
   all_goals
    go_loopw [11] (fun vj wr3 => ∃ (j2 : Nat), vj = .int .i64 j2 ∧ i2 ≤ j2 + 1 ∧ j2 ≤ j ∧ Hid (SR w wr3 blk off dk) ∧ Hid (scanDown (fun x => !ltInt x dk[a]!) dk i2 j2 = scanDown (fun x => !ltInt x dk[a]!) dk i2 j)) (fun vj _ => (intOf vj).toNat)
    case atStart => exact ⟨j, rfl, by omega, Nat.le_refl _, HS, Lib.hid rfl⟩
    case round =>
     clear HS
     obtain ⟨j2, rfl, hj2a, hj2b, HS, HD⟩ := hrel
     by_cases hij : i2 ≤ j2
     {
     have hd : decide (i2 ≤ j2) = true := decide_eq_true hij
     have an : (a : Int) < n := by omega
     have jn : (j2 : Int) < n := by omega
     have ci : wr.cell? ⟨blk, off + j2, none⟩ = some (.int .u64 (G j2)) := by rw [HS.out.cell (by omega), HG.out]
     have ca : wr.cell? ⟨blk, off + a, none⟩ = some (.int .u64 (G a)) := by rw [HS.out.cell (by omega), HG.out]
     cases hl : ltInt (G j2) (G a) with
     | false => {
     have HD2 := Lib.hid (show scanDown (fun x => !ltInt x dk[a]!) dk i2 (j2 - 1) = scanDown (fun x => !ltInt x dk[a]!) dk i2 j by rw [← HD.out, scanDown_go (fun x => !ltInt x dk[a]!) dk i2 j2 hij (by omega) (by simp only [HG.out, hl]; rfl)])
     go_wp2
     go_quiet (first | (go_at_call 219; refine Calls.quiet_of_same (less_is hl _)))
     go_wp2
     go_roundw
     case rel => exact ⟨j2 - 1, by congr 1; omega, by omega, by omega, Lib.hid (HS.out.drewN nq), HD2⟩
     case measure => simp [intOf]; omega
     }
     | true => {
     have hJ : j2 = scanDown (fun x => !ltInt x dk[a]!) dk i2 j := by rw [← HD.out, scanDown_end (fun x => !ltInt x dk[a]!) dk i2 j2 (.inr (by simp only [HG.out, hl]; rfl))]
     have HJ := Lib.hid hJ; clear hJ
     have fi : wr.frozen? ⟨blk, off + j2, none⟩ = false := HS.out.frozen _
     have fi2 : wr.frozen? ⟨blk, off + i2, none⟩ = false := HS.out.frozen _
     have ci2 : wr.cell? ⟨blk, off + i2, none⟩ = some (.int .u64 (G i2)) := by rw [HS.out.cell (by omega), HG.out]
     have in2 : (i2 : Int) < n := by omega
     have hne : i2 < j2 := part_scans_lt ltInt a i j dk (by omega) HI.out HJ.out hij
     have ne1 : i2 ≠ j2 := by omega
     have ne2 : j2 ≠ i2 := by omega
     have hgt : decide (i2 > j2) = false := decide_eq_false (by omega)
     go_wp2
     go_quiet (first | (go_at_call 219; refine Calls.quiet_of_same (less_is hl _)))
     go_wp2
     go_region
     all_goals go_wp2
     have hfirst := part_first_go ltInt d a b pivot Hij.out.1 Hij.out.2 Hdk.out HI.out HJ.out (show ¬ i2 > j2 by omega)
     obtain ⟨rl, hrl⟩ : ∃ rl, partLoop ltInt a (i2 + 1) (j2 - 1) (swp dk i2 j2) = rl := ⟨_, rfl⟩
     rw [hrl, HR0.out] at hfirst
     have HFirst := Lib.hid hfirst; clear hfirst
     have HLr := Lib.hid hrl; clear hrl
     have HSw : Hid (SR w (((wr.drewN (nq + 1)).setCell ⟨blk, off + i2, none⟩ (.int .u64 (G j2))).setCell ⟨blk, off + j2, none⟩ (.int .u64 (G i2))) blk off (swp dk i2 j2)) := Lib.hid (by
       have := HS.out.swap (nq + 1) (i := i2) (j := j2) (by omega) (by omega)
       rw [HG.out, HG.out] at this
       exact this)
     generalize ((wr.drewN (nq + 1)).setCell ⟨blk, off + i2, none⟩ (.int .u64 (G j2))).setCell ⟨blk, off + j2, none⟩ (.int .u64 (G i2)) = ws at *
     go_loopw [10, 11] (fun vi vj wr => ∃ (i j : Nat) (dk : Array Int), vi = .int .i64 i ∧ vj = .int .i64 j ∧ a + 1 ≤ i ∧ i ≤ j + 1 ∧ j < b ∧ dk.size = n ∧ Hid (SR w wr blk off dk) ∧ Hid (partLoop ltInt a i j dk = rl)) (fun vi vj _ => (intOf vj + 1 - intOf vi).toNat)
     case atStart => exact ⟨i2 + 1, j2 - 1, swp dk i2 j2, by go_num, by congr 1; omega, by omega, by omega, by omega, by rw [size_swp]; exact hsk, HSw, HLr⟩
     case round =>
      clear HSw HLr HS HI HJ HD HU HG
      obtain ⟨i, j, dk, rfl, rfl, hai, hij1, hjb, hsk, HS, HL⟩ := hrel
      obtain ⟨G, hG⟩ : ∃ G : Nat → Int, ∀ t, dk[t]! = G t := ⟨fun t => dk[t]!, fun _ => rfl⟩
      have HG := Lib.hid hG; clear hG
      go_wp2
      go_loopw [10] (fun vi wr2 => ∃ (i2 : Nat), vi = .int .i64 i2 ∧ i ≤ i2 ∧ i2 ≤ j + 1 ∧ Hid (SR w wr2 blk off dk) ∧ Hid (scanUp (fun x => ltInt x dk[a]!) dk j i2 = scanUp (fun x => ltInt x dk[a]!) dk j i)) (fun vi _ => j + 1 - (intOf vi).toNat)
      case atStart => exact ⟨i, rfl, Nat.le_refl _, by omega, HS, Lib.hid rfl⟩
      case round =>
       clear HS
       obtain ⟨i2, rfl, hi2a, hi2b, HS, HU⟩ := hrel
       by_cases hij : i2 ≤ j
       case' pos =>
        have hd : decide (i2 ≤ j) = true := decide_eq_true hij
        have an : (a : Int) < n := by omega
        have in2 : (i2 : Int) < n := by omega
        have ci : wr.cell? ⟨blk, off + i2, none⟩ = some (.int .u64 (G i2)) := by rw [HS.out.cell (by omega), HG.out]
        have ca : wr.cell? ⟨blk, off + a, none⟩ = some (.int .u64 (G a)) := by rw [HS.out.cell (by omega), HG.out]
        cases hl : ltInt (G i2) (G a)
        case true =>
         have HU2 := Lib.hid (show scanUp (fun x => ltInt x dk[a]!) dk j (i2 + 1) = scanUp (fun x => ltInt x dk[a]!) dk j i by rw [← HU.out, scanUp_go (fun x => ltInt x dk[a]!) dk j i2 hij (by simp only [HG.out, hl])])
         go_wp2
         go_quiet (first | (go_at_call 219; refine Calls.quiet_of_same (less_is hl _)))
         go_wp2
         go_roundw
         case rel => exact ⟨i2 + 1, by go_num, by omega, by omega, Lib.hid (HS.out.drewN nq), HU2⟩
         case measure => simp [intOf]; omega
        have hI : i2 = scanUp (fun x => ltInt x dk[a]!) dk j i := by rw [← HU.out, scanUp_end (fun x => ltInt x dk[a]!) dk j i2 (.inr (by simp only [HG.out, hl]))]
        have HI := Lib.hid hI; clear hI
        go_wp2
        go_quiet (first | (go_at_call 219; refine Calls.quiet_of_same (less_is hl _)))
        go_wp2
        have HS := Lib.hid (HS.out.drewN nq)
        generalize wr.drewN nq = wq at *
        clear hl ci ca hd
       case' neg =>
        have hd : decide (i2 ≤ j) = false := decide_eq_false hij
        have hI : i2 = scanUp (fun x => ltInt x dk[a]!) dk j i := by rw [← HU.out, scanUp_end (fun x => ltInt x dk[a]!) dk j i2 (.inl hij)]
        have HI := Lib.hid hI; clear hI
        go_wp2
        go_quiet (first | (go_at_call 219; refine Calls.quiet_of_same (less_is rfl _)))
        go_wp2
        have HS := Lib.hid (HS.out.drewN nq)
        generalize wr.drewN nq = wq at *
        clear hd hij
       all_goals
        go_loopw [11] (fun vj wr3 => ∃ (j2 : Nat), vj = .int .i64 j2 ∧ i2 ≤ j2 + 1 ∧ j2 ≤ j ∧ Hid (SR w wr3 blk off dk) ∧ Hid (scanDown (fun x => !ltInt x dk[a]!) dk i2 j2 = scanDown (fun x => !ltInt x dk[a]!) dk i2 j)) (fun vj _ => (intOf vj).toNat)
        case atStart => exact ⟨j, rfl, by omega, Nat.le_refl _, HS, Lib.hid rfl⟩
        case round =>
         clear HS
         obtain ⟨j2, rfl, hj2a, hj2b, HS, HD⟩ := hrel
         by_cases hij : i2 ≤ j2
         {
         have hd : decide (i2 ≤ j2) = true := decide_eq_true hij
         have an : (a : Int) < n := by omega
         have jn : (j2 : Int) < n := by omega
         have ci : wr.cell? ⟨blk, off + j2, none⟩ = some (.int .u64 (G j2)) := by rw [HS.out.cell (by omega), HG.out]
         have ca : wr.cell? ⟨blk, off + a, none⟩ = some (.int .u64 (G a)) := by rw [HS.out.cell (by omega), HG.out]
         cases hl : ltInt (G j2) (G a) with
         | false => {
         have HD2 := Lib.hid (show scanDown (fun x => !ltInt x dk[a]!) dk i2 (j2 - 1) = scanDown (fun x => !ltInt x dk[a]!) dk i2 j by rw [← HD.out, scanDown_go (fun x => !ltInt x dk[a]!) dk i2 j2 hij (by omega) (by simp only [HG.out, hl]; rfl)])
         go_wp2
         go_quiet (first | (go_at_call 219; refine Calls.quiet_of_same (less_is hl _)))
         go_wp2
         go_roundw
         case rel => exact ⟨j2 - 1, by congr 1; omega, by omega, by omega, Lib.hid (HS.out.drewN nq), HD2⟩
         case measure => simp [intOf]; omega
         }
         | true => {
         have hJ : j2 = scanDown (fun x => !ltInt x dk[a]!) dk i2 j := by rw [← HD.out, scanDown_end (fun x => !ltInt x dk[a]!) dk i2 j2 (.inr (by simp only [HG.out, hl]; rfl))]
         have HJ := Lib.hid hJ; clear hJ
         have fi : wr.frozen? ⟨blk, off + j2, none⟩ = false := HS.out.frozen _
         have fi2 : wr.frozen? ⟨blk, off + i2, none⟩ = false := HS.out.frozen _
         have ci2 : wr.cell? ⟨blk, off + i2, none⟩ = some (.int .u64 (G i2)) := by rw [HS.out.cell (by omega), HG.out]
         have in2 : (i2 : Int) < n := by omega
         have hne : i2 < j2 := part_scans_lt ltInt a i j dk (by omega) HI.out HJ.out hij
         have ne1 : i2 ≠ j2 := by omega
         have ne2 : j2 ≠ i2 := by omega
         have hgt : decide (i2 > j2) = false := decide_eq_false (by omega)
         go_wp2
         go_quiet (first | (go_at_call 219; refine Calls.quiet_of_same (less_is hl _)))
         go_wp2
         go_region
         all_goals go_wp2
         go_roundw
         case rel =>
          refine ⟨i2 + 1, j2 - 1, swp dk i2 j2, by go_num, by congr 1; omega, by omega, by omega, by omega, by rw [size_swp]; exact hsk, Lib.hid ?_, Lib.hid ?_⟩
          {
          have := HS.out.swap (nq + 1) (i := i2) (j := j2) (by omega) (by omega)
          rw [HG.out, HG.out] at this
          exact this
          }
          · rw [← HL.out, part_go ltInt a i j dk HI.out HJ.out (by omega)]
         case measure => simp [intOf]; omega
         }
         }
         {
         have hd : decide (i2 ≤ j2) = false := decide_eq_false hij
         have hJ : j2 = scanDown (fun x => !ltInt x dk[a]!) dk i2 j := by rw [← HD.out, scanDown_end (fun x => !ltInt x dk[a]!) dk i2 j2 (.inl hij)]
         have HJ := Lib.hid hJ; clear hJ
         have hgt : decide (i2 > j2) = true := decide_eq_true (by omega)
         go_wp2
         go_quiet (first | (go_at_call 219; refine Calls.quiet_of_same (less_is rfl _)))
         go_wp2
         have hja : a ≤ j2 := by omega
         have an : (a : Int) < n := by omega
         have jn : (j2 : Int) < n := by omega
         have cj : wr.cell? ⟨blk, off + j2, none⟩ = some (.int .u64 (G j2)) := by rw [HS.out.cell (by omega), HG.out]
         have fj : wr.frozen? ⟨blk, off + j2, none⟩ = false := HS.out.frozen _
         have ca : wr.cell? ⟨blk, off + a, none⟩ = some (.int .u64 (G a)) := by rw [HS.out.cell (by omega), HG.out]
         have fa : wr.frozen? ⟨blk, off + a, none⟩ = false := HS.out.frozen _
         have hsw : SR w (((wr.drewN (nq + 1)).setCell ⟨blk, off + j2, none⟩ (.int .u64 (G a))).setCell ⟨blk, off + a, none⟩ (.int .u64 (G j2))) blk off (swp dk j2 a) := by {
         have := HS.out.swap (nq + 1) (i := j2) (j := a) (by omega) (by omega)
         rw [HG.out, HG.out] at this
         exact this
         }
         have HSw := Lib.hid hsw; clear hsw
         have HRes := Lib.hid (show res = (j2, false, swp dk j2 a) by rw [HFirst.out, ← HL.out, part_break ltInt a i j dk HI.out HJ.out (by omega)])
         by_cases hEq : j2 = a
         {
         rw [hEq] at HSw HRes ⊢
         clear cj fj
         go_region
         all_goals go_wp2
         go_ret2
         exact ⟨by rw [HRes.out]; rfl, by rw [HRes.out]; exact HSw.out⟩
         }
         {
         have ne2 : a ≠ j2 := fun e => hEq e.symm
         go_region
         all_goals go_wp2
         go_ret2
         exact ⟨by rw [HRes.out]; rfl, by rw [HRes.out]; exact HSw.out⟩
         }
         }
     }
     }
     {
     have hd : decide (i2 ≤ j2) = false := decide_eq_false hij
     have hJ : j2 = scanDown (fun x => !ltInt x dk[a]!) dk i2 j := by rw [← HD.out, scanDown_end (fun x => !ltInt x dk[a]!) dk i2 j2 (.inl hij)]
     have HJ := Lib.hid hJ; clear hJ
     have hgt : decide (i2 > j2) = true := decide_eq_true (by omega)
     go_wp2
     go_quiet (first | (go_at_call 219; refine Calls.quiet_of_same (less_is rfl _)))
     go_wp2
     have hja : a ≤ j2 := by omega
     have an : (a : Int) < n := by omega
     have jn : (j2 : Int) < n := by omega
     have cj : wr.cell? ⟨blk, off + j2, none⟩ = some (.int .u64 (G j2)) := by rw [HS.out.cell (by omega), HG.out]
     have fj : wr.frozen? ⟨blk, off + j2, none⟩ = false := HS.out.frozen _
     have ca : wr.cell? ⟨blk, off + a, none⟩ = some (.int .u64 (G a)) := by rw [HS.out.cell (by omega), HG.out]
     have fa : wr.frozen? ⟨blk, off + a, none⟩ = false := HS.out.frozen _
     have hsw : SR w (((wr.drewN (nq + 1)).setCell ⟨blk, off + j2, none⟩ (.int .u64 (G a))).setCell ⟨blk, off + a, none⟩ (.int .u64 (G j2))) blk off (swp dk j2 a) := by {
     have := HS.out.swap (nq + 1) (i := j2) (j := a) (by omega) (by omega)
     rw [HG.out, HG.out] at this
     exact this
     }
     have HSw := Lib.hid hsw; clear hsw
     have HRes := Lib.hid (show res = (j2, true, swp dk j2 a) by rw [← HR0.out]; exact part_first_break ltInt d a b pivot Hij.out.1 Hij.out.2 Hdk.out HI.out HJ.out (by omega))
     by_cases hEq : j2 = a
     {
     rw [hEq] at HSw HRes ⊢
     clear cj fj
     go_region
     all_goals go_wp2
     go_ret2
     exact ⟨by rw [HRes.out]; rfl, by rw [HRes.out]; exact HSw.out⟩
     }
     {
     have ne2 : a ≠ j2 := fun e => hEq e.symm
     go_region
     all_goals go_wp2
     go_ret2
     exact ⟨by rw [HRes.out]; rfl, by rw [HRes.out]; exact HSw.out⟩
     }
     }
end Go.Proofs.YtgmnemndjjmgkaaGreat
