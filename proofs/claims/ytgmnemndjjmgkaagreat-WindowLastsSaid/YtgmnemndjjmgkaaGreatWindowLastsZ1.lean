/- The statement 'WindowLasts': for every input the call returns true, and each argument reads afterwards as it read before. -/
import Derived.Test.YtgmnemndjjmgkaaGreatRows
import Derived.WalkKit
import Derived.ProofKit
import Derived.OpenShut
import Derived.ShutString
import Derived.Deep.Slices
import Derived.ChangeSame
import Derived.Test.YtgmnemndjjmgkaaGreatB1
import Derived.Test.YtgmnemndjjmgkaaGreatB23
import Derived.Test.YtgmnemndjjmgkaaGreatB20
import Derived.Test.YtgmnemndjjmgkaaGreatB14
import Derived.Test.YtgmnemndjjmgkaaGreatB6
set_option linter.unusedSimpArgs false
set_option linter.unusedVariables false
/- How the arguments of the laws read: slices of integers. -/
namespace Go.Proofs.YtgmnemndjjmgkaaGreat
open Go.ChangeShapes Go.WideShapes Go.ChangeAt Go.RowKit

end Go.Proofs.YtgmnemndjjmgkaaGreat

/- How values of flat types (structs of integers and bools) and slices of them read. -/
namespace Go.Proofs.YtgmnemndjjmgkaaGreat
open Go.ChangeShapes Go.WideShapes Go.ChangeAt Go.RowKit Go.Deep

/-- The kind of a cell. -/
inductive FK where
  | i (k : IntKind)
  | b
def FK.ok : FK → Value → Prop
  | .i k, v => ∃ n : Int, v = .int k n ∧ (Lit.int k n).wf = true
  | .b, v => ∃ x : Bool, v = .bool x

/-- A type whose values are cells of these kinds. -/
def Flat (P : Program) (t : TypeId) (ks : List FK) : Prop :=
  P.cellsOf t = ks.length ∧ ∀ {H : Type} {enc : TypeId × Value → H} {w : World} {base : Nat} {spare : Nat → Bool} {held : Bool} {fuel : Nat} {cs : List Value} {x : DataW H × List MemPlace},
    DataW.trod enc P w base spare held fuel t cs = some x → ∀ (j : Nat) (k : FK), ks[j]? = some k → ∃ v, cs[j]? = some v ∧ k.ok v

theorem Flat.int {P : Program} {t : TypeId} {k : IntKind} (ht : P.underlying t = some (.int k)) (hc : P.cellsOf t = 1) : Flat P t [.i k] := by
  refine ⟨hc, fun h j k' hj => ?_⟩
  obtain ⟨n, rfl, _, hw⟩ := DataW.trod_int ht h
  cases j with
  | zero => simp at hj; subst hj; exact ⟨_, rfl, n, rfl, hw⟩
  | succ j => simp at hj
theorem Flat.bool {P : Program} {t : TypeId} (ht : P.underlying t = some .bool) (hc : P.cellsOf t = 1) : Flat P t [.b] := by
  refine ⟨hc, fun h j k' hj => ?_⟩
  obtain ⟨n, rfl, _⟩ := DataW.trod_bool ht h
  cases j with
  | zero => simp at hj; subst hj; exact ⟨_, rfl, n, rfl⟩
  | succ j => simp at hj
theorem Flat.struct {P : Program} {t : TypeId} {fs : Array Field} {ks : List FK} (ht : P.underlying t = some (.struct fs)) (hc : P.cellsOf t = ks.length)
    (hcov : ∀ (j : Nat) (k : FK), ks[j]? = some k → ∃ (i : Nat) (f : Field) (fk : List FK), fs[i]? = some f ∧ Flat P f.type fk ∧ f.offset ≤ j ∧ fk[j - f.offset]? = some k) : Flat P t ks := by
  refine ⟨hc, fun h j k hj => ?_⟩
  obtain ⟨xs, n, _, _, hl, hlen, hf⟩ := DataW.trod_struct ht h
  obtain ⟨i, f, fk, hi, hfl, hoff, hk⟩ := hcov j k hj
  have h1 := hf i f hi
  have hil : i < xs.length := by rw [hlen]; exact (Array.getElem?_eq_some_iff.1 hi).1
  rw [List.getElem?_eq_getElem hil] at h1
  obtain ⟨v, hv, hok⟩ := hfl.2 h1 (j - f.offset) k hk
  refine ⟨v, ?_, hok⟩
  rw [List.getElem?_take] at hv
  split at hv
  · rw [List.getElem?_drop] at hv
    rw [← hv]; congr 1; omega
  · cases hv

theorem cell_no_spot' {W : World} {y : Addr} {v : Value} (h : W.cell? y = some v) : y.spot = none := by
  unfold World.cell? at h
  split at h
  · by_cases hs : y.spot.isSome = true
    · rw [if_pos hs] at h; cases h
    · cases hy : y.spot with
      | none => rfl
      | some s => rw [hy] at hs; exact absurd rfl hs
  · cases h

/-- A slice of flat elements: z i j is cell j of element i. -/
def FlatF (w : World) (a : Option Addr) (len : Nat) (ks : List FK) (z : Nat → Nat → Value) : Prop :=
  len ≤ 9223372036854775807 ∧ ∀ i, i < len → ∃ b off, a = some ⟨b, off, none⟩ ∧ b < w.heap.size ∧ ∀ (j : Nat) (k : FK), ks[j]? = some k → w.cell? ⟨b, off + i * ks.length + j, none⟩ = some (z i j) ∧ k.ok (z i j)
theorem FlatF.below {w w' : World} {a : Option Addr} {len : Nat} {ks : List FK} {z : Nat → Nat → Value} (h : FlatF w a len ks z) (hb : Below w.heap.size w w') : FlatF w' a len ks z := by
  refine ⟨h.1, fun i hi => ?_⟩
  obtain ⟨b, off, rfl, hlt, h1⟩ := h.2 i hi
  exact ⟨b, off, rfl, Nat.lt_of_lt_of_le hlt hb.size, fun j k hj => ⟨(hb.cell (p := ⟨b, off + i * ks.length + j, none⟩) hlt).trans (h1 j k hj).1, (h1 j k hj).2⟩⟩

theorem open_flat {H : Type} {enc : TypeId × Value → H} {W : World} {P : Program} {t e : TypeId} {ks : List FK} (ht : P.underlying t = some (.slice e)) (he : Flat P e ks) (hks : 0 < ks.length) {a : Option Addr} {len cap : Nat} {d : DataW H} {p : List MemPlace}
    (h : DataW.Trod enc P W 0 (fun _ => true) true t (.slice a len cap) d p) : ∃ z, FlatF W a len ks z := by
  obtain ⟨fuel, hf⟩ := h
  rcases open_slice ht hf with ⟨hcs, _⟩ | ⟨x, l, c, m, n, D, Pl, hcs, _, hl, hm, hmm, _, hel⟩
  · simp [Value.cells] at hcs
    obtain ⟨rfl, rfl, rfl⟩ := hcs
    exact ⟨fun _ _ => undef, by omega, fun i hi => absurd hi (Nat.not_lt_zero _)⟩
  · simp [Value.cells] at hcs
    obtain ⟨rfl, rfl, rfl⟩ := hcs
    have hml : len ≤ m := by rw [hmm]; simpa using hl
    have key : ∀ i, ∃ u : Nat → Value, i < len → ∀ (j : Nat) (k : FK), ks[j]? = some k → W.cell? ((x.add (i * ks.length)).add j) = some (u j) ∧ k.ok (u j) := by
      intro i
      by_cases hi : i < len
      · obtain ⟨cs', hc, ht⟩ := hel i (by omega)
        rw [he.1] at hc
        obtain ⟨_, _, hat⟩ := World.cells?_some hc
        refine ⟨fun j => cs'.getD j undef, fun _ j k hj => ?_⟩
        obtain ⟨v, hv, hok⟩ := he.2 ht j k hj
        have hjl : j < ks.length := (List.getElem?_eq_some_iff.1 hj).1
        have e1 : cs'.getD j undef = v := by rw [List.getD_eq_getElem?_getD, hv]; rfl
        show W.cell? ((x.add (i * ks.length)).add j) = some (cs'.getD j undef) ∧ k.ok (cs'.getD j undef)
        rw [e1]
        exact ⟨(hat j hjl).trans hv, hok⟩
      · exact ⟨fun _ => undef, fun h => absurd h hi⟩
    obtain ⟨F, hF⟩ := Classical.axiomOfChoice key
    refine ⟨F, by unfold maxLen at hm; omega, fun i hi => ?_⟩
    have hne : ∃ k, ks[0]? = some k := ⟨_, List.getElem?_eq_getElem hks⟩
    obtain ⟨k0, hk0⟩ := hne
    have hsp := cell_no_spot' (hF 0 (by omega) 0 k0 hk0).1
    have z0 : (x.add (0 * ks.length)).add 0 = x := by simp [Addr.add]
    rw [z0] at hsp
    obtain ⟨b, off, sp⟩ := x
    simp only at hsp
    subst hsp
    have h1 := hF i hi
    simp only [Addr.add_lit] at h1
    exact ⟨b, off, rfl, cell_lt (h1 0 k0 hk0).1, h1⟩

end Go.Proofs.YtgmnemndjjmgkaaGreat

/- A window after moves. -/
namespace Go.Proofs.YtgmnemndjjmgkaaGreat
open Go.RowKit
set_option maxRecDepth 10000
set_option maxHeartbeats 1600000

theorem flat_move37 : Flat Tryz.prog 71 [.i .u8, .i .u8, .i .u8, .i .i8] := by
  refine Flat.struct Tryz.underlying71 (by kernel_rfl) (fun j k hj => ?_)
  have hi : Flat Tryz.prog 5 [.i .u8] := Flat.int Tryz.underlying5 (by kernel_rfl)
  have hb : Flat Tryz.prog 69 [.i .i8] := Flat.int Tryz.underlying69 (by kernel_rfl)
  match j, hj with
  | 0, hj => exact ⟨0, _, _, rfl, hi, by decide, hj⟩
  | 1, hj => exact ⟨1, _, _, rfl, hi, by decide, hj⟩
  | 2, hj => exact ⟨2, _, _, rfl, hi, by decide, hj⟩
  | 3, hj => exact ⟨3, _, _, rfl, hb, by decide, hj⟩
  | j + 4, hj => simp at hj
/-- A slice of len moves reads z. -/
def MovesW (w : World) (a : Option Addr) (len : Nat) (z : Nat → Nat × Nat × Nat × Int) : Prop :=
  len ≤ 9223372036854775807 ∧ ∀ i, i < len → ∃ b off, a = some ⟨b, off, none⟩ ∧ b < w.heap.size ∧ w.cell? ⟨b, off + i * 4, none⟩ = some (.int .u8 (z i).1) ∧ w.cell? ⟨b, off + i * 4 + 1, none⟩ = some (.int .u8 (z i).2.1) ∧
    w.cell? ⟨b, off + i * 4 + 2, none⟩ = some (.int .u8 (z i).2.2.1) ∧ w.cell? ⟨b, off + i * 4 + 3, none⟩ = some (.int .i8 (z i).2.2.2) ∧ (z i).1 < 256 ∧ (z i).2.1 < 256 ∧ (z i).2.2.1 < 256 ∧ -128 ≤ (z i).2.2.2 ∧ (z i).2.2.2 ≤ 127
theorem u8_wf {a : Int} (h : (Lit.int .u8 a).wf = true) : ∃ n : Nat, a = n ∧ n < 256 := by
  have h : (decide ((0 : Int) ≤ a) && decide (a ≤ 255)) = true := h
  simp only [Bool.and_eq_true, decide_eq_true_eq] at h
  exact ⟨a.toNat, by omega, by omega⟩
theorem i8_wf {a : Int} (h : (Lit.int .i8 a).wf = true) : -128 ≤ a ∧ a ≤ 127 := by
  have h : (decide ((-128 : Int) ≤ a) && decide (a ≤ 127)) = true := h
  simp only [Bool.and_eq_true, decide_eq_true_eq] at h
  exact h
theorem open_moves37 {H : Type} {enc : TypeId × Value → H} {W : World} {a : Option Addr} {len cap : Nat} {d : DataW H} {p : List MemPlace}
    (h : DataW.Trod enc Tryz.prog W 0 (fun _ => true) true 22 (.slice a len cap) d p) : ∃ z, MovesW W a len z := by
  obtain ⟨z, hz⟩ := open_flat Tryz.underlying22 flat_move37 (by decide) h
  have key : ∀ i, ∃ u : Nat × Nat × Nat × Int, i < len → z i 0 = .int .u8 u.1 ∧ z i 1 = .int .u8 u.2.1 ∧ z i 2 = .int .u8 u.2.2.1 ∧ z i 3 = .int .i8 u.2.2.2 ∧ u.1 < 256 ∧ u.2.1 < 256 ∧ u.2.2.1 < 256 ∧ -128 ≤ u.2.2.2 ∧ u.2.2.2 ≤ 127 := by
    intro i
    by_cases hi : i < len
    · obtain ⟨b, off, rfl, _, h1⟩ := hz.2 i hi
      obtain ⟨n0, e0, w0⟩ := (h1 0 _ rfl).2
      obtain ⟨n1, e1, w1⟩ := (h1 1 _ rfl).2
      obtain ⟨n2, e2, w2⟩ := (h1 2 _ rfl).2
      obtain ⟨n3, e3, w3⟩ := (h1 3 _ rfl).2
      obtain ⟨m0, rfl, k0⟩ := u8_wf w0
      obtain ⟨m1, rfl, k1⟩ := u8_wf w1
      obtain ⟨m2, rfl, k2⟩ := u8_wf w2
      have k3 := i8_wf w3
      exact ⟨(m0, m1, m2, n3), fun _ => ⟨e0, e1, e2, e3, k0, k1, k2, k3.1, k3.2⟩⟩
    · exact ⟨(0, 0, 0, 0), fun h => absurd h hi⟩
  obtain ⟨F, hF⟩ := Classical.axiomOfChoice key
  refine ⟨F, hz.1, fun i hi => ?_⟩
  obtain ⟨b, off, rfl, hb, h1⟩ := hz.2 i hi
  obtain ⟨e0, e1, e2, e3, e4⟩ := hF i hi
  refine ⟨b, off, rfl, hb, ?_, ?_, ?_, ?_, e4⟩
  · rw [← e0]; exact (h1 0 _ rfl).1
  · rw [← e1]; exact (h1 1 _ rfl).1
  · rw [← e2]; exact (h1 2 _ rfl).1
  · rw [← e3]; exact (h1 3 _ rfl).1

/-- What is known of a window after k moves. -/
structure Bg (W : Wm) (k : Nat) : Prop where
  m : W.m = 20
  E : W.E = 40
  V : W.V = 12
  D : W.D = 0
  now : W.now ≤ 3 * k
  id : ∀ e ∈ W.s.L, e.u < 12 ∧ e.v < 12
  last : W.s.last ≤ k
theorem Bg.new : Bg (Wm.new 20 40 12 0 0) 0 := ⟨rfl, rfl, rfl, rfl, by decide, fun e h => (by cases h), Nat.le_refl _⟩
theorem Bg.mono {W : Wm} {k j : Nat} (h : Bg W k) (hj : k ≤ j) : Bg W j := ⟨h.m, h.E, h.V, h.D, by have := h.now; omega, h.id, Nat.le_trans h.last hj⟩
theorem Bg.tick {W : Wm} {k : Nat} (h : Bg W k) {to : Int} (ht : to ≤ 3 * (k + 1 : Nat)) (ds : List Nat) (Q' : Nat → Option Int) : Bg (W.tick to ds Q') (k + 1) :=
  ⟨h.m, h.E, h.V, h.D, ht, fun e he => h.id e (rems_sub ds he), by
    show (W.s.rems ds).last ≤ _
    rw [(rems_keep W.s ds).2.2]; have := h.last; omega⟩
theorem Bg.put {W : Wm} {k : Nat} (h : Bg W k) {to : Int} (ht : to ≤ 3 * (k + 1 : Nat)) (ds : List Nat) (Q' : Nat → Option Int) {u v : Nat} (hu : u < 12) (hv : v < 12) (wt : Int) (a b : Nat) : Bg ((W.tick to ds Q').put u v wt a b) (k + 1) := by
  have h1 := h.tick ht ds Q'
  refine ⟨h.m, h.E, h.V, h.D, ht, fun e he => ?_, ?_⟩
  · have he' : e ∈ (W.s.rems ds).L ++ [(W.s.rems ds).edge u v wt to (to + W.m)] := he
    rw [List.mem_append, List.mem_singleton] at he'
    rcases he' with he' | rfl
    · exact h1.id e he'
    · exact ⟨hu, hv⟩
  · show (W.s.rems ds).last + 1 ≤ _
    rw [(rems_keep W.s ds).2.2]; have := h.last; omega
/-- Vertices never run out. -/
theorem chk_12 {s : Sm} (h : s.Ok) (hV : s.V = 12) (hid : ∀ e ∈ s.L, e.u < 12 ∧ e.v < 12) {u v : Nat} (hu : u < 12) (hv : v < 12) (hne : u ≠ v) : s.chk u v = 0 ∨ s.chk u v = 12 := by
  have hl : s.M.L.length + s.more u v ≤ 12 := by
    have h1 : s.M.L.length + s.more u v = (withUV s.M u v).length := by rw [withUV_len]; rfl
    rw [h1]
    have := nodup_sub_len (m := List.range 12) (withUV_nodup h.md hne) (fun x hx => by
      rw [List.mem_range]
      rcases (withUV_mem h.md).1 hx with hx | rfl | rfl
      · obtain ⟨k, hk⟩ := List.exists_mem_of_ne_nil _ ((h.vert x).1 hx)
        obtain ⟨e, he, hat, _⟩ := mem_incL.1 hk
        have := hid e he
        simp only [Lv.at, Bool.or_eq_true, beq_iff_eq] at hat
        omega
      · exact hu
      · exact hv)
    simpa using this
  unfold Sm.chk
  rw [if_neg hne]
  by_cases hE : s.E ≤ s.A.used
  · rw [if_pos hE]; exact .inr rfl
  · rw [if_neg hE, if_neg (by omega)]; exact .inl rfl
theorem begun_w (W : World) (a : Option Addr) (len cap : Nat) (z : Nat → Nat × Nat × Nat × Int) (hz : MovesW W a len z) (hlen : len ≤ 100) :
    Calls Tryz.prog 13 #[.slice a len cap] W fun e w' => ∃ pw X, e = .returned (wptr pw) ∧ WW W w' pw X ∧ Bg X len := by
  have HN := Lib.hid (ww_new (w0 := W) (wr := W) 20 0 40 12 (Fr.refl [] W) (by omega) (by omega) (by omega) (by omega) (by omega) (by omega) (by omega) (by omega))
  have HZ := Lib.hid hz; clear hz
  go_enter Tryz.func13, Tryz.ntmps13
  go_wp2_with fail
  refine HN.out.mono ?_
  rintro _ w1 ⟨pw, rfl, hS1⟩
  have HS1 := Lib.hid hS1; clear hS1 HN
  go_wp2_with fail
  go_loopw [5] (fun c wr => ∃ (k : Nat), k ≤ len ∧ c = .int .i64 k ∧ Hid (∃ X, WW W wr pw X ∧ Bg X k)) (fun c _ => len - (intOf c).toNat)
  case atStart => exact ⟨0, Nat.zero_le _, rfl, Lib.hid ⟨_, HS1.out, Bg.new⟩⟩
  case round =>
    obtain ⟨k, hk, rfl, HR⟩ := hrel
    clear HS1
    rename World => wr
    by_cases hkl : k < len
    · have hki : (k : Int) < len := by omega
      obtain ⟨X, hX, hB⟩ := HR.out
      obtain ⟨b, off, rfl, hb, m0, m1, m2, m3, l0, l1, l2, l3, l4⟩ := HZ.out.2 k hkl
      generalize (z k).1 = by_ at *
      generalize (z k).2.1 = mu at *
      generalize (z k).2.2.1 = mvv at *
      generalize (z k).2.2.2 = ms at *
      have hFW := hX.fr
      have n0 := hFW.cell m0 (by simp); have n1 := hFW.cell m1 (by simp); have n2 := hFW.cell m2 (by simp); have n3 := hFW.cell m3 (by simp)
      have HCe := Lib.hid (show ∀ w', Fr [] wr w' → w'.cell? ⟨b, off + k * 4, none⟩ = some (.int .u8 by_) ∧ w'.cell? ⟨b, off + k * 4 + 1, none⟩ = some (.int .u8 mu) ∧ w'.cell? ⟨b, off + k * 4 + 2, none⟩ = some (.int .u8 mvv) ∧ w'.cell? ⟨b, off + k * 4 + 3, none⟩ = some (.int .i8 ms) from fun w' hf => ⟨hf.cell n0 (by simp), hf.cell n1 (by simp), hf.cell n2 (by simp), hf.cell n3 (by simp)⟩)
      clear hFW m0 m1 m2 m3 n1 n2 n3
      have hn0 := hX.ok.n0
      have hnow := hB.now
      have hbw : IntKind.i64.wrap ((by_ : Int).tmod 4) = ((by_ % 4 : Nat) : Int) := by rw [Int.tmod_eq_emod_of_nonneg (by omega)]; simp [IntKind.wrap, IntKind.bits, IntKind.signed]; omega
      have hb4 : ((by_ : Int) % 4) = ((by_ % 4 : Nat) : Int) := by omega
      have hb3 : by_ % 4 < 4 := Nat.mod_lt _ (by omega)
      generalize by_ % 4 = dt at *
      obtain ⟨now, hnw⟩ : ∃ now, now = X.now := ⟨_, rfl⟩
      have hWn : Calls Tryz.prog 16 #[wptr pw] wr.drew fun e w' => e = .returned (.int .i64 now) ∧ w' = wr.drew := by rw [hnw]; exact ww_now (hX.fr0 (Fr.refl [] wr).drew)
      have HNow := Lib.hid hWn
      rw [← hnw] at hn0 hnow
      have HX := Lib.hid (And.intro hX (And.intro hB hnw))
      clear hX hB hnw hWn
      go_wp2_with fail
      go_region_held3 (fun w' => w'.cell? ⟨b, off + k * 4, none⟩ = some (.int .u8 by_))
        (first
          | with_reducible exact And.left (HCe.out _ (Fr.refl [] wr).drew)
          | go_keep)
        (first
          | (go_at_call 16; with_reducible refine Calls.mono HNow.out ?_; rintro _ w2 ⟨rfl, rfl⟩))
      rename_i hHH
      clear hHH
      obtain ⟨_, n1, n2, n3⟩ := HCe.out _ (Fr.refl [] wr).drew
      have hu12 : ((mu : Int) % 12) = ((mu % 12 : Nat) : Int) := by omega
      have hv12 : ((mvv : Int) % 12) = ((mvv % 12 : Nat) : Int) := by omega
      have hlu : mu % 12 < 12 := Nat.mod_lt _ (by omega)
      have hlv : mvv % 12 < 12 := Nat.mod_lt _ (by omega)
      have hwu : IntKind.u64.wrap ((mu : Int).tmod 12) = ((mu % 12 : Nat) : Int) := by rw [Int.tmod_eq_emod_of_nonneg (by omega)]; simp [IntKind.wrap, IntKind.bits, IntKind.signed]; omega
      have hwv : IntKind.u64.wrap ((mvv : Int).tmod 12) = ((mvv % 12 : Nat) : Int) := by rw [Int.tmod_eq_emod_of_nonneg (by omega)]; simp [IntKind.wrap, IntKind.bits, IntKind.signed]; omega
      generalize mu % 12 = u at *
      generalize mvv % 12 = v at *
      clear n0 HNow hbw hb4
      obtain ⟨t, ht⟩ : ∃ t, t = now + dt := ⟨_, rfl⟩
      rw [← ht]
      have hX2 := HX.out.1.fr0 (Fr.refl [] wr).drew
      clear HCe
      generalize wr.drew = w2 at *
      have HX2 := Lib.hid hX2
      clear hX2
      have Ht := Lib.hid (And.intro hn0 (And.intro hnow (And.intro hb3 ht)))
      have ht1 : 0 ≤ t := by omega
      have ht2 : t ≤ 3 * ((k + 1 : Nat) : Int) := by omega
      clear ht hnow hn0 hb3
      rw [show IntKind.i64.wrap t = t by simp [IntKind.wrap, IntKind.bits, IntKind.signed]; omega]
      go_wp2_with fail
      go_quiet (fail)
      have n3' := ((Fr.refl [] w2).drewN nq).cell n3 (by simp)
      have hX3 := HX2.out.fr0 ((Fr.refl [] w2).drewN nq)
      clear n1 n2 n3 hu12 hv12 hwu hwv HX2
      generalize w2.drewN nq = w3 at *
      have hct : chkT X.m X.now t = 0 := by
        have h1 := Ht.out; have h2 := HX.out.2.2; have h3 := HX.out.2.1.m
        unfold chkT
        rw [if_neg (by omega)]
        unfold sumC
        exact if_pos (by omega)
      have hok := hX3.ok
      obtain ⟨q1, q2⟩ := chkT_ok hct
      by_cases huv : u = v
      · subst huv
        have HT := Lib.hid (ww_tick hX3 t (by omega) (by omega) hct)
        clear hX3 n3' hct hok q1 q2
        go_wp2_with fail
        refine HT.out.mono ?_
        rintro _ w4 ⟨rfl, ds, Q', hm, hX4⟩
        have HX4 := Lib.hid hX4
        clear hm hX4 HT
        go_wp2_with fail
        go_roundw
        case rel => exact ⟨k + 1, by omega, by go_num, Lib.hid ⟨_, HX4.out, HX.out.2.1.tick ht2 ds Q'⟩⟩
        case measure => simp [intOf]; omega
      · have HA := Lib.hid (ww_add hX3 u v (by omega) (by omega) huv ms t (by omega) (by omega) hct (by have := HX.out.2.1.last; omega))
        have HK := Lib.hid (And.intro hok (And.intro q1 q2))
        have hws : IntKind.i64.wrap ms = ms := by simp [IntKind.wrap, IntKind.bits, IntKind.signed]; omega
        have d1 : ((u : Int) == v) = false := by simp; omega
        have Huv := Lib.hid huv
        clear hX3 hct hok q1 q2 huv
        go_wp2_with fail
        refine HA.out.mono ?_
        rintro _ w4 ⟨c, rfl, ds, Q', hm, hres⟩
        have hc : c = 0 ∨ c = 12 := by
          rcases hres with ⟨_, _, h1, _⟩ | ⟨h1, _⟩
          · have k1 := (Wm.tick_ok HK.out.1 HK.out.2.1 HK.out.2.2 hm).1
            have := chk_12 k1.ok (k1.hV.trans HX.out.2.1.V) (fun e he => HX.out.2.1.id e (rems_sub ds he)) hlu hlv Huv.out
            rw [h1]; exact this
          · exact .inl h1
        have hnew : ∃ Y, WW W w4 pw Y ∧ Bg Y (k + 1) := by
          rcases hres with ⟨_, _, _, h1⟩ | ⟨_, _, a, b, _, _, h1⟩
          · exact ⟨X, h1, HX.out.2.1.mono (Nat.le_succ _)⟩
          · exact ⟨_, h1, HX.out.2.1.put ht2 ds Q' hlu hlv ms a b⟩
        have HNew := Lib.hid hnew
        clear hm hres hnew HA n3' hws d1
        rcases hc with rfl | rfl
        all_goals
          go_wp2_with fail
          go_roundw
          case rel => exact ⟨k + 1, by omega, by go_num, HNew⟩
          case measure => simp [intOf]; omega
    · obtain rfl : k = len := by omega
      obtain ⟨X, hX⟩ := HR.out
      have HX := Lib.hid hX
      clear hX HR
      go_wp2
      go_ret
      exact ⟨pw, X, rfl, HX.out⟩
end Go.Proofs.YtgmnemndjjmgkaaGreat

/- The plain model of a window: who is connected when the time goes on. -/
namespace Go.Proofs.YtgmnemndjjmgkaaGreat
open Go.RowKit
set_option maxRecDepth 10000

/-- The window W2 is W1 later: some edges are gone. -/
structure Wm.Later (W1 W2 : Wm) : Prop where
  G : ∀ i a b x, W2.G i = some (a, b, x) ↔ W1.G i = some (a, b, x) ∧ W2.now < x
  find : ∀ u j, W2.s.M.find u = some j → W1.s.M.find u = some j
theorem Wm.Later.refl {W : Wm} (h : W.Ok) : W.Later W := by
  refine ⟨fun i a b x => ⟨fun hg => ⟨hg, ?_⟩, fun hg => hg.1⟩, fun _ _ h => h⟩
  obtain ⟨e, he, _, _, _, hx⟩ := (h.lk.g i a b x).1 hg
  have := (h.x e he).2.2.2
  omega
theorem Wm.Later.tick {W W1 : Wm} (hl : W.Later W1) (h : W1.Ok) {to : Int} (h1 : W1.now ≤ to) {ds : List Nat} {Q' : Nat → Option Int} (hm : Mins to W1.Q ds Q') : W.Later (W1.tick to ds Q') := by
  refine ⟨fun i a b x => ?_, fun u j hu => hl.find u j (Wm.tick_find h hm hu (hm.law h.lk h.ok).1)⟩
  rw [Wm.tick_G h hm, hl.G]
  show (W.G i = some (a, b, x) ∧ W1.now < x) ∧ to < x ↔ W.G i = some (a, b, x) ∧ to < x
  constructor
  · rintro ⟨⟨g1, _⟩, g3⟩; exact ⟨g1, g3⟩
  · rintro ⟨g1, g3⟩; exact ⟨⟨g1, by omega⟩, g3⟩
theorem Wm.Later.cx {W W1 : Wm} (hl : W.Later W1) (a b : Nat) : Cx W1.G (fun _ => True) a b ↔ Cx W.G (Beyond W.G W1.now) a b := by
  constructor
  · refine fun hc => hc.mono' fun t e _ he => ?_
    obtain ⟨p, q, x⟩ := e
    have h1 := (hl.G t p q x).1 he
    exact ⟨⟨p, q, x, h1.1, h1.2⟩, h1.1⟩
  · refine fun hc => hc.mono' fun t e hb he => ⟨trivial, ?_⟩
    obtain ⟨p, q, x⟩ := e
    obtain ⟨p', q', y, hy, hlt⟩ := hb
    rw [hy] at he
    simp only [Option.some.injEq, Prod.mk.injEq] at he
    obtain ⟨rfl, rfl, rfl⟩ := he
    exact (hl.G ..).2 ⟨hy, hlt⟩
theorem atLeast_beyond (G : EMap) (r : Int) : AtLeast G r = Beyond G (r - 1) := by
  funext t
  exact propext ⟨fun ⟨a, b, x, h1, h2⟩ => ⟨a, b, x, h1, by omega⟩, fun ⟨a, b, x, h1, h2⟩ => ⟨a, b, x, h1, by omega⟩⟩
/-- A path between two vertices has an edge at each of its ends. -/
theorem Cx.first {G : EMap} {U : Nat → Prop} {a b : Nat} (h : Cx G U a b) (hne : a ≠ b) : (∃ s c x, U s ∧ (G s = some (c, b, x) ∨ G s = some (b, c, x))) := by
  cases h with
  | refl => exact absurd rfl hne
  | step s x h1 h2 h3 => exact ⟨s, _, x, h2, h3⟩
/-- When two vertices are connected until r: when that is, and how it goes on. -/
theorem Wm.until_law {W : Wm} (h : W.Ok) {u v a b : Nat} {r : Int} (hu : W.s.M.find u = some a) (hv : W.s.M.find v = some b) (hne : a ≠ b) (hr : IsUntil W.G a b r) :
    W.now < r ∧ r ≤ W.now + W.m := by
  have hex : ∃ s c d, W.G s = some (c, d, r) := by
    apply Classical.byContradiction
    intro hn
    refine hr.2 (hr.1.mono fun t _ ⟨c, d, x, h1, h2⟩ _ => ⟨c, d, x, h1, ?_⟩)
    have : x ≠ r := fun e => hn ⟨t, c, d, by rw [← e]; exact h1⟩
    omega
  obtain ⟨s, c, d, hs⟩ := hex
  obtain ⟨e, he, _, _, _, hx⟩ := (h.lk.g s c d r).1 hs
  have := h.x e he
  omega
theorem Wm.Later.conn {W W1 : Wm} (hl : W.Later W1) (h : W.Ok) (h1 : W1.Ok) {u v a b : Nat} {r : Int} (hu : W.s.M.find u = some a) (hv : W.s.M.find v = some b) (hne : a ≠ b) (hr : IsUntil W.G a b r) (hn : W1.now = r - 1) :
    W1.s.M.find u = some a ∧ W1.s.M.find v = some b ∧ Cx W1.G (fun _ => True) a b := by
  have hc : Cx W1.G (fun _ => True) a b := by
    rw [hl.cx, hn, ← atLeast_beyond]; exact hr.1
  have hvert : ∀ {w i : Nat}, W.s.M.find w = some i → (∃ s c x, W1.G s = some (c, i, x) ∨ W1.G s = some (i, c, x)) → W1.s.M.find w = some i := by
    intro w i hw ⟨s, c, x, hs⟩
    rcases hs with hs | hs
    · obtain ⟨e, he, _, g1, g2, _⟩ := (h1.lk.g s c i x).1 hs
      have := hl.find _ _ g2
      rw [find_inj h.ok.md hw this]; exact g2
    · obtain ⟨e, he, _, g1, g2, _⟩ := (h1.lk.g s i c x).1 hs
      have := hl.find _ _ g1
      rw [find_inj h.ok.md hw this]; exact g1
  obtain ⟨s, c, x, _, hs⟩ := hc.first hne
  obtain ⟨s', c', x', _, hs'⟩ := hc.symm.first (Ne.symm hne)
  exact ⟨hvert hu ⟨s', c', x', hs'⟩, hvert hv ⟨s, c, x, hs⟩, hc⟩
theorem Wm.Later.apart {W W1 : Wm} (hl : W.Later W1) {u v a b : Nat} {r : Int} (hu : W.s.M.find u = some a) (hv : W.s.M.find v = some b) (hr : IsUntil W.G a b r) (hn : r ≤ W1.now) {a' b' : Nat} (hu' : W1.s.M.find u = some a') (hv' : W1.s.M.find v = some b') :
    ¬ Cx W1.G (fun _ => True) a' b' := by
  have e1 := hl.find _ _ hu'
  have e2 := hl.find _ _ hv'
  rw [hu] at e1; rw [hv] at e2
  obtain rfl := Option.some.inj e1
  obtain rfl := Option.some.inj e2
  rw [hl.cx]
  exact fun hc => hr.2 (hc.mono fun t _ ⟨c, d, x, h1, h2⟩ _ => ⟨c, d, x, h1, by omega⟩)
end Go.Proofs.YtgmnemndjjmgkaaGreat

/- forest: how the laws' edges read, rows of Booleans, small. -/
namespace Go.Proofs.YtgmnemndjjmgkaaGreat
open Go.RowKit Classical
set_option maxRecDepth 10000
set_option maxHeartbeats 800000

/-- A slice of len edges reads z: two vertices, a time. -/
def EdgesF (w : World) (a : Option Addr) (len : Nat) (z : Nat → Int × Int × Int) : Prop :=
  len ≤ 9223372036854775807 ∧ ∀ i, i < len → ∃ b off, a = some ⟨b, off, none⟩ ∧ b < w.heap.size ∧ w.cell? ⟨b, off + i * 3, none⟩ = some (.int .i64 (z i).1) ∧ w.cell? ⟨b, off + i * 3 + 1, none⟩ = some (.int .i64 (z i).2.1) ∧
    w.cell? ⟨b, off + i * 3 + 2, none⟩ = some (.int .i64 (z i).2.2) ∧ -9223372036854775808 ≤ (z i).2.2 ∧ (z i).2.2 ≤ 9223372036854775807
theorem EdgesF.below {w w' : World} {a : Option Addr} {len : Nat} {z : Nat → Int × Int × Int} (h : EdgesF w a len z) (hb : Below w.heap.size w w') : EdgesF w' a len z := by
  refine ⟨h.1, fun i hi => ?_⟩
  obtain ⟨b, off, rfl, hlt, h1, h2, h3, h4⟩ := h.2 i hi
  exact ⟨b, off, rfl, Nat.lt_of_lt_of_le hlt hb.size, (hb.cell (p := ⟨b, off + i * 3, none⟩) hlt).trans h1, (hb.cell (p := ⟨b, off + i * 3 + 1, none⟩) hlt).trans h2, (hb.cell (p := ⟨b, off + i * 3 + 2, none⟩) hlt).trans h3, h4⟩
theorem EdgesF.fr {w w' : World} {a : Option Addr} {len : Nat} {z : Nat → Int × Int × Int} (h : EdgesF w a len z) (hb : Fr [] w w') : EdgesF w' a len z := h.below (hb.below (by simp))
/-- A row of Booleans. -/
def bRow (n : Nat) (f : Nat → Bool) : List Value := (List.range n).map fun i => .bool (f i)
end Go.Proofs.YtgmnemndjjmgkaaGreat

/- forest: the forest that the laws grow. -/
namespace Go.Proofs.YtgmnemndjjmgkaaGreat
open Go.RowKit Classical
set_option maxRecDepth 10000
set_option maxHeartbeats 1600000

section
variable {S V : Nat} {z : Nat → Int × Int × Int} {P P' : Nat → Prop} {i : Nat}
end

end Go.Proofs.YtgmnemndjjmgkaaGreat

/- forest: what is reached by rounds over a list of edges (plain law). -/
namespace Go.Proofs.YtgmnemndjjmgkaaGreat
open Classical

section
variable (use : Nat → Bool) (A B : Nat → Nat)
variable {use A B} {len n : Nat} {f : Nat → Bool}
end
end Go.Proofs.YtgmnemndjjmgkaaGreat

/- forest: reached, the laws' own. -/
namespace Go.Proofs.YtgmnemndjjmgkaaGreat
open Go.RowKit Classical
set_option maxRecDepth 10000
set_option maxHeartbeats 1600000

end Go.Proofs.YtgmnemndjjmgkaaGreat

/- forest: rows of slots; whether two are equal. -/
namespace Go.Proofs.YtgmnemndjjmgkaaGreat
open Go.RowKit Classical
set_option maxRecDepth 10000
set_option maxHeartbeats 800000

/-- A slice reads the numbers p. -/
def RowN (w : World) (v : Value) (p : List Nat) : Prop := w.ownsRow 0 3 1 v p.length (encT p)
theorem RowN.fr {w w' : World} {v : Value} {p : List Nat} {S : List Nat} (h : RowN w v p) (hf : Fr S w w') (hs : ∀ q, v.ownBlock = some q → q ∉ S) : RowN w' v p :=
  ownsRow_same h (fun q hq => hf.keep q (ownsRow_lt h hq) (hs q hq))
theorem RowN.at {w : World} {v : Value} {p : List Nat} (h : RowN w v p) {i : Nat} (hi : i < p.length) : ∃ b cap, v = .slice (some ⟨b, 0, none⟩) p.length cap ∧ b < w.heap.size ∧ w.cell? ⟨b, i, none⟩ = some (.int .i64 (p[i]'hi)) := by
  obtain ⟨b, cap, e, _, h2, h3, _⟩ := ownsRow_at h hi
  refine ⟨b, cap, e, h2, h3.trans ?_⟩
  simp [encT, hi]
theorem RowN.slice {w : World} {v : Value} {p : List Nat} (h : RowN w v p) : ∃ a cap, v = .slice a p.length cap := ownsRow_slice h

end Go.Proofs.YtgmnemndjjmgkaaGreat

/- forest: edges expire one after another (plain law); late edges. -/
namespace Go.Proofs.YtgmnemndjjmgkaaGreat
open Classical

section
variable {S V : Nat} {z : Nat → Int × Int × Int} {P : Nat → Prop} {D : Nat → Prop} {t m k : Nat}
end
end Go.Proofs.YtgmnemndjjmgkaaGreat

/- ForestLate: the walk. -/
namespace Go.Proofs.YtgmnemndjjmgkaaGreat
open Go.RowKit Classical
set_option maxRecDepth 10000
set_option maxHeartbeats 1600000

/-- What the walk of a law carries: the forest, and the row of what is there. -/
def LK (W wr : World) (pf S V : Nat) (G : EMap) (tb : Nat) (f : Nat → Bool) : Prop := ∃ L, FO W wr pf S V G L ∧ Blk wr tb 4 (bRow S f) ∧ W.heap.size ≤ tb ∧ tb ∉ L
/-- All its blocks are below m. -/
def LKm (W wr : World) (pf S V : Nat) (G : EMap) (tb : Nat) (f : Nat → Bool) (m : Nat) : Prop := ∃ L, FO W wr pf S V G L ∧ Blk wr tb 4 (bRow S f) ∧ W.heap.size ≤ tb ∧ tb ∉ L ∧ (∀ q ∈ L, q < m) ∧ tb < m
section
variable {W wr w' : World} {pf S V tb m : Nat} {G G' : EMap} {f : Nat → Bool} {L : List Nat}
theorem LK.now (h : LK W wr pf S V G tb f) : LKm W wr pf S V G tb f wr.heap.size := by
  obtain ⟨L, h1, h2, h3, h4⟩ := h
  exact ⟨L, h1, h2, h3, h4, h1.lt, h2.lt⟩
theorem LKm.lk (h : LKm W wr pf S V G tb f m) : LK W wr pf S V G tb f := by
  obtain ⟨L, h1, h2, h3, h4, _⟩ := h
  exact ⟨L, h1, h2, h3, h4⟩
theorem LKm.keep (h : LKm W wr pf S V G tb f m) {X : List Nat} (hf : Fr X wr w') (hx : ∀ q ∈ X, m ≤ q) (hw : ∀ q ∈ X, W.heap.size ≤ q) : LKm W w' pf S V G tb f m := by
  obtain ⟨L, h1, h2, h3, h4, h5, h6⟩ := h
  exact ⟨L, h1.keep hf (fun q hq hm => by have := hx q hm; have := h5 q hq; omega) hw, hf.blk h2 (fun hm => by have := hx _ hm; omega), h3, h4, h5, h6⟩
theorem LKm.keep0 (h : LKm W wr pf S V G tb f m) (hf : Fr [] wr w') : LKm W w' pf S V G tb f m := h.keep hf (by simp) (by simp)
theorem LKm.fr (h : LKm W wr pf S V G tb f m) : Fr [] W wr := by obtain ⟨L, h1, _⟩ := h; exact h1.fr
theorem LKm.blk (h : LKm W wr pf S V G tb f m) : Blk wr tb 4 (bRow S f) := by obtain ⟨L, _, h2, _⟩ := h; exact h2
theorem LK.keep (h : LK W wr pf S V G tb f) (hf : Fr [] wr w') : LK W w' pf S V G tb f := by
  obtain ⟨L, h1, h2, h3, h4⟩ := h
  exact ⟨L, h1.keep0 hf, hf.blk h2 (by simp), h3, h4⟩
theorem LK.fr (h : LK W wr pf S V G tb f) : Fr [] W wr := by obtain ⟨L, h1, _⟩ := h; exact h1.fr
theorem LK.blk (h : LK W wr pf S V G tb f) : Blk wr tb 4 (bRow S f) := by obtain ⟨L, _, h2, _⟩ := h; exact h2
end

end Go.Proofs.YtgmnemndjjmgkaaGreat

/- ForestUntil: the walk. -/
namespace Go.Proofs.YtgmnemndjjmgkaaGreat
open Go.RowKit Classical
set_option maxRecDepth 10000
set_option maxHeartbeats 1600000

section
variable {S V : Nat} {z : Nat → Int × Int × Int} {P : Nat → Prop} {a b : Nat} {T : Int}
end

/-- Where two vertices are connected, the first edge of their path says until when. -/
theorem until_ex {G : EMap} {S V : Nat} (hG : GW S V G) {a b : Nat} (hab : a ≠ b) (h : Cx G (fun _ => True) a b) : ∃ T, IsUntil G a b T := by
  -- the latest time with which they are connected
  have key : ∀ (k : Nat) (U : Nat → Prop), cntT S U ≤ k → (∀ t, U t → ∃ e, G t = some e) → Upw G U → Cx G U a b → ∃ T, IsUntil G a b T := by
    intro k
    induction k with
    | zero =>
      intro U hk hU _ hc
      exfalso
      have h0 : ∀ s, ¬ U s := fun s hs => by obtain ⟨e, he⟩ := hU s hs; exact cnt_zero (by omega) s (hG.slot s e he) hs
      cases hc with
      | refl => exact hab rfl
      | step s x _ h1 _ => exact h0 s h1
    | succ k ih =>
      intro U hk hU hup hc
      by_cases hex : ∃ s, U s
      · obtain ⟨s, c, d, x, hs, hgs, hall⟩ := first_ex hG.slot (k + 1) U hk hU hex
        by_cases hb : Cx G (Beyond G x) a b
        · -- what is beyond x is fewer
          have hd := cntT_drop (T := U) (hG.slot s _ hgs) hs
          have hsub : ∀ t, Beyond G x t ∧ U t → U t ∧ t ≠ s := fun t ⟨⟨_, _, y, h1, h2⟩, h3⟩ => ⟨h3, by rintro rfl; rw [hgs] at h1; simp at h1; omega⟩
          refine ih (fun t => Beyond G x t ∧ U t) (by have := cnt_le_of S hsub; omega) (fun t ht => hU t ht.2) ?_ ?_
          · rintro t c' d' y u ⟨⟨_, _, y', h1, h2⟩, h3⟩ h4 h5
            refine ⟨?_, hup t c' d' y u h3 h4 h5⟩
            rw [h4] at h1; simp only [Option.some.injEq, Prod.mk.injEq] at h1
            obtain ⟨_, _, v, h6, h7⟩ := h5
            exact ⟨_, _, v, h6, by unfold bef at h7; omega⟩
          · exact hb.mono fun t f ht hg => ⟨ht, by
              obtain ⟨_, _, y, h1, h2⟩ := ht
              by_cases e : t = s
              · rw [e]; exact hs
              · exact hup s c d x t hs hgs ⟨_, _, y, h1, by unfold bef; omega⟩⟩
        · refine ⟨x, hc.mono fun t f ht hg => ?_, hb⟩
          by_cases e : t = s
          · subst e; exact ⟨_, _, _, hgs, Int.le_refl _⟩
          · obtain ⟨_, _, y, h1, h2⟩ := hall t ht e
            exact ⟨_, _, y, h1, by unfold bef at h2; omega⟩
      · exfalso
        cases hc with
        | refl => exact hab rfl
        | step s x _ h1 _ => exact hex ⟨s, h1⟩
  refine key _ (fun t => ∃ e, G t = some e) (Nat.le_refl _) (fun t h => h) (fun _ _ _ _ _ _ _ ⟨_, _, _, h, _⟩ => ⟨_, h⟩) (h.mono fun t f _ hg => ⟨f, hg⟩)
theorem until_exB {G : EMap} {S V : Nat} (hG : GW S V G) {x y : Int} (h : untilB V G x y = true) : ∃ T, IsUntil G x.toNat y.toNat T := by
  unfold untilB connG at h
  simp only [Bool.and_eq_true, decide_eq_true_eq] at h
  obtain ⟨h1, ⟨h2, h3⟩, h4⟩ := h
  obtain ⟨a, rfl, _⟩ := inV_nat h2
  obtain ⟨b, rfl, _⟩ := inV_nat h3
  exact until_ex hG (by omega) h4

/-- A forest that was made since the call began; its blocks are not told. -/
def FX (W wr : World) (pf S V : Nat) (G : EMap) : Prop := ∃ L, FO W wr pf S V G L
theorem FX.fr {W wr : World} {pf S V : Nat} {G : EMap} (h : FX W wr pf S V G) : Fr [] W wr := by obtain ⟨L, h⟩ := h; exact h.fr
theorem FX.conn {W wr : World} {pf S V : Nat} {G : EMap} (h : FX W wr pf S V G) (x y : Int) : Calls Tryz.prog 40 #[fptr pf, .int .i64 x, .int .i64 y] wr fun e w' => e = .returned (.bool (connG V G x y)) ∧ FX W w' pf S V G := by
  obtain ⟨L, h⟩ := h
  refine (fo_conn h x y).mono ?_
  rintro e w' ⟨rfl, L', h1, _⟩
  exact ⟨rfl, L', h1⟩
end Go.Proofs.YtgmnemndjjmgkaaGreat

/- WindowLasts: what Until says, and who is connected later. -/
namespace Go.Proofs.YtgmnemndjjmgkaaGreat
open Go.RowKit Classical
set_option maxRecDepth 10000
set_option maxHeartbeats 800000

section
variable {W w wr : World} {pw : Nat} {X Y : Wm}
theorem WW.gw (h : WW W wr pw X) : GW X.E X.V X.G := by
  obtain ⟨K, ⟨_, pc, ps, px, pf, nq, Ks, lx, Lf, cl, hB, _⟩, _⟩ := h
  exact hB.fo.gw.1
theorem ends_01 (s : Sm) (u v : Nat) : endsC s u v = 0 ∨ endsC s u v = 13 := by
  unfold endsC; by_cases h : (s.M.find u).isSome = true ∧ (s.M.find v).isSome = true
  · exact .inl (if_pos h)
  · exact .inr (if_neg h)
theorem ends_find {s : Sm} {u v : Nat} (h : endsC s u v = 0) : ∃ a b, s.M.find u = some a ∧ s.M.find v = some b ∧ endsI s u v = a ∧ endsI s v u = b := by
  unfold endsC at h
  by_cases h1 : (s.M.find u).isSome = true ∧ (s.M.find v).isSome = true
  · obtain ⟨a, ha⟩ := Option.isSome_iff_exists.1 h1.1
    obtain ⟨b, hb⟩ := Option.isSome_iff_exists.1 h1.2
    refine ⟨a, b, ha, hb, ?_, ?_⟩
    · unfold endsI; rw [if_pos h1, ha]; rfl
    · unfold endsI; rw [if_pos ⟨h1.2, h1.1⟩, hb]; rfl
  · rw [if_neg h1] at h; cases h
theorem find_lt {s : Sm} (h : s.Ok) {V u a : Nat} (hV : s.V = V) (hu : s.M.find u = some a) : inV V a = true := by
  have := Sm.idx_lt h hu
  simp [inV]; omega
/-- What Connected says. -/
theorem conn_find (hok : X.Ok) {u v a b : Nat} (hu : X.s.M.find u = some a) (hv : X.s.M.find v = some b) : endsC X.s u v = 0 ∧ wconnB (X.wp 0) u v = decide (Cx X.G (fun _ => True) a b) := by
  have h0 : endsC X.s u v = 0 := by unfold endsC; rw [if_pos (by simp [hu, hv])]
  have hi : endsI X.s u v = a := by unfold endsI; rw [if_pos (by simp [hu, hv]), hu]; rfl
  have hj : endsI X.s v u = b := by unfold endsI; rw [if_pos (by simp [hu, hv]), hv]; rfl
  refine ⟨h0, ?_⟩
  unfold wconnB
  rw [show (X.wp 0).s = X.s from rfl, if_pos h0, hi, hj]
  show connG X.V X.G a b = _
  unfold connG
  rw [find_lt hok.ok hok.hV hu, find_lt hok.ok hok.hV hv]
  simp
/-- Until's answer, part by part. -/
theorem until_cases (hok : X.Ok) (hg : GW X.E X.V X.G) (u v : Nat) :
    (wuntB (X.wp 0) u v = false ∧ wuntV (X.wp 0) u v = 0 ∧ ((endsC X.s u v = 13 ∧ wconnB (X.wp 0) u v = false) ∨ (endsC X.s u v = 0 ∧ wconnB (X.wp 0) u v = false) ∨ (endsC X.s u v = 0 ∧ wconnB (X.wp 0) u v = true ∧ u = v))) ∨
    (wuntB (X.wp 0) u v = true ∧ endsC X.s u v = 0 ∧ wconnB (X.wp 0) u v = true ∧ u ≠ v ∧ ∃ a b, X.s.M.find u = some a ∧ X.s.M.find v = some b ∧ a ≠ b ∧ IsUntil X.G a b (wuntV (X.wp 0) u v)) := by
  rcases ends_01 X.s u v with h0 | h0
  · obtain ⟨a, b, hu, hv, hi, hj⟩ := ends_find h0
    obtain ⟨_, hc⟩ := conn_find hok hu hv
    have hB : wuntB (X.wp 0) u v = (decide (a ≠ b) && decide (Cx X.G (fun _ => True) a b)) := by
      unfold wuntB
      rw [show (X.wp 0).s = X.s from rfl, if_pos h0, hi, hj]
      show untilB X.V X.G a b = _
      unfold untilB connG
      rw [find_lt hok.ok hok.hV hu, find_lt hok.ok hok.hV hv]
      simp [Int.natCast_inj]
    have hV : wuntV (X.wp 0) u v = if wuntB (X.wp 0) u v = true then untilI X.G a b else 0 := by
      unfold wuntV wuntB
      rw [show (X.wp 0).s = X.s from rfl, if_pos h0, if_pos h0, hi, hj]
      rfl
    by_cases hcx : Cx X.G (fun _ => True) a b
    · rw [decide_eq_true hcx] at hc hB
      by_cases hab : a = b
      · have huv : u = v := find_inj hok.ok.md hu (by rw [hab]; exact hv)
        have hB' : wuntB (X.wp 0) u v = false := by rw [hB]; simp [hab]
        exact .inl ⟨hB', by rw [hV, hB']; rfl, .inr (.inr ⟨h0, hc, huv⟩)⟩
      · have hB' : wuntB (X.wp 0) u v = true := by rw [hB]; simp [hab]
        refine .inr ⟨hB', h0, hc, fun e => hab (Option.some.inj (hu.symm.trans (by rw [e]; exact hv))), a, b, hu, hv, hab, ?_⟩
        rw [hV, if_pos hB']
        have hB2 : untilB X.V X.G a b = true := by
          have h1 := hB'
          unfold wuntB at h1
          rw [show (X.wp 0).s = X.s from rfl, if_pos h0, hi, hj] at h1
          exact h1
        obtain ⟨r, hr⟩ := until_exB hg hB2
        rw [show untilI X.G a b = r from untilI_eq hr]
        exact hr
    · rw [decide_eq_false hcx] at hc hB
      have hB' : wuntB (X.wp 0) u v = false := by rw [hB]; simp
      exact .inl ⟨hB', by rw [hV, hB']; rfl, .inr (.inl ⟨h0, hc⟩)⟩
  · refine .inl ⟨?_, ?_, .inl ⟨h0, ?_⟩⟩
    · unfold wuntB; rw [show (X.wp 0).s = X.s from rfl, if_neg (by omega)]
    · unfold wuntV; rw [show (X.wp 0).s = X.s from rfl, if_neg (by omega)]
    · unfold wconnB; rw [show (X.wp 0).s = X.s from rfl, if_neg (by omega)]
/-- Until's edge is gone: who is not connected. -/
theorem later_apart (hok : Y.Ok) (hl : X.Later Y) {u v a b : Nat} {r : Int} (hu : X.s.M.find u = some a) (hv : X.s.M.find v = some b) (hr : IsUntil X.G a b r) (hn : r ≤ Y.now) :
    wconnB (Y.wp 0) u v = false := by
  rcases ends_01 Y.s u v with h0 | h0
  · obtain ⟨a', b', hu', hv', _, _⟩ := ends_find h0
    rw [(conn_find hok hu' hv').2]
    exact decide_eq_false (hl.apart hu hv hr hn hu' hv')
  · unfold wconnB; rw [show (Y.wp 0).s = Y.s from rfl, if_neg (by omega)]
end
end Go.Proofs.YtgmnemndjjmgkaaGreat

/- WindowLasts: the walk. -/
namespace Go.Proofs.YtgmnemndjjmgkaaGreat
open Go.RowKit Classical
set_option maxRecDepth 10000
set_option maxHeartbeats 1600000

theorem walk_windowLasts (W : World) (a : Option Addr) (len cap : Nat) (z : Nat → Nat × Nat × Nat × Int) (hz : MovesW W a len z) (x : Int) (hx : (Lit.int .u8 x).wf = true) (y : Int) (hy : (Lit.int .u8 y).wf = true) :
    Calls Tryz.prog 3 #[.slice a len cap, .int .u8 x, .int .u8 y] W fun e w' => e = .returned (.bool true) ∧ Below W.heap.size W w' := by
  have HWk := Lib.hid (fun w => works37_w w)
  by_cases hlen : len ≤ 100
  · obtain ⟨mu, rfl, l1⟩ := u8_wf hx
    obtain ⟨mv, rfl, l2⟩ := u8_wf hy
    have HB := Lib.hid (begun_w W a len cap z hz hlen)
    have d0 : decide ((len : Int) > 100) = false := decide_eq_false (by omega)
    have hu12 : ((mu : Int) % 12) = ((mu % 12 : Nat) : Int) := by omega
    have hv12 : ((mv : Int) % 12) = ((mv % 12 : Nat) : Int) := by omega
    have hlu : mu % 12 < 12 := Nat.mod_lt _ (by omega)
    have hlv : mv % 12 < 12 := Nat.mod_lt _ (by omega)
    have hwu : IntKind.u64.wrap ((mu : Int).tmod 12) = ((mu % 12 : Nat) : Int) := by rw [Int.tmod_eq_emod_of_nonneg (by omega)]; simp [IntKind.wrap, IntKind.bits, IntKind.signed]; omega
    have hwv : IntKind.u64.wrap ((mv : Int).tmod 12) = ((mv % 12 : Nat) : Int) := by rw [Int.tmod_eq_emod_of_nonneg (by omega)]; simp [IntKind.wrap, IntKind.bits, IntKind.signed]; omega
    clear hz hx hy
    generalize mu % 12 = u at *
    generalize mv % 12 = v at *
    go_enter Tryz.func3, Tryz.ntmps3
    go_wp2_with fail
    refine HB.out.mono ?_
    rintro _ w1 ⟨pw, X, rfl, hX, hBg⟩
    have HX := Lib.hid (And.intro hX.ok hBg)
    have HU := Lib.hid (ww_until hX u v (by omega) (by omega))
    have hcs := until_cases hX.ok hX.gw u v
    have HCs := Lib.hid hcs
    clear hX hBg HB hcs
    go_wp2_with fail
    refine HU.out.mono ?_
    rintro _ w2 ⟨rfl, hX2⟩
    have HC := Lib.hid (ww_conn hX2 u v (by omega) (by omega))
    clear hX2 HU hwu hwv hu12 hv12
    go_wp2_with fail
    refine HC.out.mono ?_
    rintro _ w3 ⟨rfl, hX3⟩
    have HX3 := Lib.hid hX3
    clear hX3 HC
    rcases HCs.out with ⟨h1, h2, h3⟩ | ⟨h1, h2, h3, h4, hrest⟩
    · rw [h1, h2]
      have HB3 := Lib.hid (HX3.out.fr)
      clear h1 h2 HCs HX3 HX
      rcases h3 with ⟨h1, h2⟩ | ⟨h1, h2⟩ | ⟨h1, h2, h3⟩
      · rw [h1, h2]
        clear h1 h2
        go_wp2_with fail
        refine (HWk.out _).mono ?_
        rintro _ w4 ⟨rfl, hF⟩
        have HF := Lib.hid (HB3.out.trans' hF); clear hF
        go_wp2
        go_ret
        exact ⟨rfl, HF.out.below (by simp)⟩
      · rw [h1, h2]
        clear h1 h2
        go_wp2_with fail
        refine (HWk.out _).mono ?_
        rintro _ w4 ⟨rfl, hF⟩
        have HF := Lib.hid (HB3.out.trans' hF); clear hF
        go_wp2
        go_ret
        exact ⟨rfl, HF.out.below (by simp)⟩
      · rw [h1, h2]
        subst h3
        clear h1 h2
        go_wp2_with fail
        refine (HWk.out _).mono ?_
        rintro _ w4 ⟨rfl, hF⟩
        have HF := Lib.hid (HB3.out.trans' hF); clear hF
        go_wp2
        go_ret
        exact ⟨rfl, HF.out.below (by simp)⟩
    · rw [h1, h2, h3]
      obtain ⟨i, j, hu, hv, hij, hr⟩ := hrest
      obtain ⟨r, hrr⟩ : ∃ r, r = wuntV (X.wp 0) u v := ⟨_, rfl⟩
      rw [← hrr] at hr ⊢
      obtain ⟨k1, k2⟩ := Wm.until_law HX.out.1 hu hv hij hr
      have hn0 := HX.out.1.n0
      have hnb := HX.out.2.now
      rw [HX.out.2.m] at k2
      have HR := Lib.hid (And.intro hu (And.intro hv (And.intro hij hr)))
      have d1 : ((u : Int) != v) = true := by simp; omega
      have HNow := Lib.hid (ww_now HX3.out)
      obtain ⟨now, hnow⟩ : ∃ now, now = X.now := ⟨_, rfl⟩
      rw [← hnow] at HNow k1 k2 hn0 hnb
      have d2 : decide (r ≤ now) = false := decide_eq_false (by omega)
      have d3 : decide (r > now + 20) = false := decide_eq_false (by omega)
      have hw20 : IntKind.i64.wrap (now + 20) = now + 20 := by simp [IntKind.wrap, IntKind.bits, IntKind.signed]; omega
      have hw1 : IntKind.i64.wrap (r - 1) = r - 1 := by simp [IntKind.wrap, IntKind.bits, IntKind.signed]; omega
      have hct : chkT X.m X.now (r - 1) = 0 := by
        rw [← hnow, HX.out.2.m]
        unfold chkT
        rw [if_neg (by omega)]
        unfold sumC
        exact if_pos (by omega)
      have HT := Lib.hid (ww_tick HX3.out (r - 1) (by omega) (by omega) hct)
      have Hn := Lib.hid hnow
      clear h1 h2 h3 h4 hu hv hij hr hrr HCs hnow hct
      go_wp2_with fail
      refine HNow.out.mono ?_
      rintro _ _ ⟨rfl, rfl⟩
      go_wp2_with fail
      refine HNow.out.mono ?_
      rintro _ _ ⟨rfl, rfl⟩
      go_wp2_with fail
      refine HT.out.mono ?_
      rintro _ w4 ⟨rfl, ds, Q', hm, hX4⟩
      have hlat : X.Later (X.tick (r - 1) ds Q') := (Wm.Later.refl HX.out.1).tick HX.out.1 (by rw [← Hn.out]; omega) hm
      have hcn := hlat.conn HX.out.1 hX4.ok HR.out.1 HR.out.2.1 HR.out.2.2.1 HR.out.2.2.2 rfl
      have hcf := conn_find hX4.ok hcn.1 hcn.2.1
      rw [decide_eq_true hcn.2.2] at hcf
      have hc4 := ww_conn hX4 u v (by omega) (by omega)
      rw [hcf.1, hcf.2] at hc4
      have HC4 := Lib.hid hc4
      have HL4 := Lib.hid hlat
      clear hc4 hcf hcn hlat hm hX4 HT HNow HX3 hw20 hw1 d2 d3 d1
      go_wp2_with fail
      refine HC4.out.mono ?_
      rintro _ w5 ⟨rfl, hX5⟩
      have HX5 := Lib.hid hX5
      clear hX5 HC4
      go_wp2_with fail
      go_loopw [15] (fun c wr => ∃ (k : Nat), k ≤ 3 ∧ c = .int .i64 k ∧ Hid (∃ Y, WW W wr pw Y ∧ X.Later Y ∧ Y.now = r - 1 + k ∧ Y.m = 20)) (fun c _ => 3 - (intOf c).toNat)
      case atStart => exact ⟨0, by omega, rfl, Lib.hid ⟨_, HX5.out, HL4.out, by show r - 1 = _; omega, HX.out.2.m⟩⟩
      case round =>
        obtain ⟨k, hk, rfl, HY⟩ := hrel
        clear HX5 HL4
        rename World => wr
        by_cases hk3 : k < 3
        · have hki : (k : Int) < 3 := by omega
          obtain ⟨Y, hY, hlat, hYn, hYm⟩ := HY.out
          have hw2 : IntKind.i64.wrap (r + k) = r + k := by simp [IntKind.wrap, IntKind.bits, IntKind.signed]; omega
          have hct : chkT Y.m Y.now (r + k) = 0 := by
            rw [hYn, hYm]
            unfold chkT
            rw [if_neg (by omega)]
            unfold sumC
            exact if_pos (by omega)
          have HT := Lib.hid (ww_tick hY (r + k) (by omega) (by omega) hct)
          have HYo := Lib.hid (And.intro hY.ok (And.intro hlat (And.intro hYn hYm)))
          clear hY hlat hYn hYm hct
          go_wp2_with fail
          refine HT.out.mono ?_
          rintro _ w6 ⟨rfl, ds, Q', hm, hX6⟩
          have hlat : X.Later (Y.tick (r + k) ds Q') := HYo.out.2.1.tick HYo.out.1 (by rw [HYo.out.2.2.1]; omega) hm
          have hap := later_apart hX6.ok hlat HR.out.1 HR.out.2.1 HR.out.2.2.2 (by show r ≤ r + (k : Int); omega)
          have hc6 := ww_conn hX6 u v (by omega) (by omega)
          rw [hap] at hc6
          have h01 := ends_01 (Y.tick (r + k) ds Q').s u v
          have HC6 := Lib.hid hc6
          have HL6 := Lib.hid hlat
          clear hc6 hap hlat hm hX6 HT hw2
          go_wp2_with fail
          refine HC6.out.mono ?_
          rintro _ w7 ⟨rfl, hX7⟩
          have HX7 := Lib.hid hX7
          clear hX7 HC6
          have hnew : Hid (∃ Y, WW W w7 pw Y ∧ X.Later Y ∧ Y.now = r - 1 + ((k + 1 : Nat) : Int) ∧ Y.m = 20) := Lib.hid ⟨_, HX7.out, HL6.out, by show r + (k : Int) = _; omega, HYo.out.2.2.2⟩
          rcases h01 with h01 | h01
          all_goals
            rw [h01]
            clear h01
            go_wp2_with fail
            go_roundw
            case rel => exact ⟨k + 1, by omega, by go_num, hnew⟩
            case measure => simp [intOf]; omega
        · obtain rfl : k = 3 := by omega
          obtain ⟨Y, hY, _⟩ := HY.out
          have HFY := Lib.hid hY.fr
          clear hY
          go_wp2_with fail
          refine (HWk.out _).mono ?_
          rintro _ w8 ⟨rfl, hF⟩
          have HF := Lib.hid (HFY.out.trans' hF); clear hF
          go_wp2
          go_ret
          exact ⟨rfl, HF.out.below (by simp)⟩
  · have d0 : decide ((len : Int) > 100) = true := decide_eq_true (by omega)
    clear hz hlen
    go_enter Tryz.func3, Tryz.ntmps3
    go_wp2_with fail
    refine (HWk.out _).mono ?_
    rintro _ w1 ⟨rfl, hF⟩
    have HF := Lib.hid hF; clear hF
    go_wp2
    go_ret
    exact ⟨rfl, HF.out.below (by simp)⟩
end Go.Proofs.YtgmnemndjjmgkaaGreat

namespace Go.Proofs.YtgmnemndjjmgkaaGreat.windowLasts
open Go.ChangeShapes Go.WideShapes Go.ChangeAt Go.RowKit
set_option linter.unusedVariables false

theorem own : ownKnob Tryz.prog.godebug = none := by kernel_rfl
theorem laidOut : laidOutB Tryz.prog = true := by kernel_rfl

set_option maxRecDepth 100000 in
theorem lifted (os : Os) (started : os.Started) (H : Type) (enc : TypeId × Value → H) :
    ReturnsInHanded {} Tryz.checked os 3 .any (Rows.windowLastsSpec.pre6 enc Tryz.prog Tryz.f3 Rows.windowLastsRow.domain false) (Rows.windowLastsSpec.post enc Tryz.prog Tryz.f3 false true false false) := by
  refine returnsInHanded_of_change (C := Tryz.checked) own started (by kernel_rfl) Tryz.func3
    (ChangeSpec.witness6 (enc := enc) (C := Tryz.checked) false ⟨#[], #[.slice none 0 0, .int .u8 0, .int .u8 0], []⟩ 8 (by kernel_rfl) (by kernel_rfl) (by kernel_rfl) (by kernel_rfl)) ?_
  intro W base args ds gs before hval0 hW hcnd _
  have hval : ∀ (j : Nat) t v, Tryz.f3.params[j]? = some t → args[j]? = some v → Value.okWide Tryz.prog W .any base t v := hval0
  have hW' := hW
  obtain ⟨p, q, hA0, hV, rfl, hfz, hnd⟩ := hW
  have hA : DataW.TrodAll enc Tryz.prog W 0 (fun _ => true) true Tryz.f3.params.toList args.toList ds p := hA0
  rw [Tryz.params3] at hA hval
  obtain ⟨v0, vs0, d0, ds0, p0, q0, hargs, rfl, rfl, h0, r0⟩ := trodAll_cons hA
  obtain ⟨v1, vs1, d1, ds1, p1, q1, rfl, rfl, rfl, h1, r1⟩ := trodAll_cons r0
  obtain ⟨v2, vs2, d2, ds2, p2, q2, rfl, rfl, rfl, h2, r2⟩ := trodAll_cons r1
  obtain ⟨rfl, rfl, rfl⟩ := trodAll_nil r2
  obtain rfl : args = #[v0, v1, v2] := by cases args; simp_all
  obtain ⟨rfl, rfl⟩ := trodVars_none hV
  obtain ⟨a0, len0, cap0, rfl⟩ := okWide_slice Tryz.underlying22 (hval 0 22 v0 rfl rfl)
  have k0 := h0
  have lt0 : ∀ x ∈ p0, x.block < W.heap.size := by obtain ⟨m, hm⟩ := k0; exact DataW.trod_lt m _ _ _ hm
  obtain ⟨z0, w0⟩ := open_moves37 h0
  obtain ⟨a1, rfl, rfl, rfl, w1⟩ := open_int Tryz.underlying5 (hval 1 5 v1 rfl rfl) h1
  obtain ⟨a2, rfl, rfl, rfl, w2⟩ := open_int Tryz.underlying5 (hval 2 5 v2 rfl rfl) h2
  clear hA0 hval0
  refine (walk_windowLasts W a0 len0 cap0 z0 w0 a1 w1 a2 w2).mono fun e W' ⟨he, bel⟩ => ?_
  subst he
  exact ⟨_, rfl, _, _, _, [], _, [], hW', trodAll_mk1 (shut_bool Tryz.underlying4 _), (trodAll_cons_mk (Below.trod laidOut (by kernel_rfl) (of_decide_eq_true (by kernel_rfl)) k0 bel lt0) (trodAll_cons_mk (shut_int Tryz.underlying5 w1) (trodAll_cons_mk (shut_int Tryz.underlying5 w2) trodAll_mk0))), rfl, bel.frame _, fun h => by cases h⟩

theorem over : Rows.windowLastsRow.holds Tryz.pinned (OpenSpec.ofChange Rows.windowLastsSpec) :=
  OpenClaim.holds_of_wide 3 Tryz.f3 rfl rfl rfl rfl rfl rfl rfl ⟨rfl, rfl, rfl, rfl, rfl⟩ rfl rfl rfl rfl rfl (by kernel_rfl) Tryz.func3 (by kernel_rfl)
    (of_decide_eq_true (by kernel_rfl)) (by unfold Func.isWrapper; first | (rw [if_pos (by decide +kernel)]; kernel_rfl) | (rw [if_neg (by decide +kernel)]; exact ⟨rfl, rfl⟩))
    (fun os started H enc _ => lifted os started H enc)

end Go.Proofs.YtgmnemndjjmgkaaGreat.windowLasts

namespace Go.Proofs.YtgmnemndjjmgkaaGreat
theorem windowLasts_holds : Rows.WindowLastsSaid := windowLasts.over
#print axioms windowLasts_holds
end Go.Proofs.YtgmnemndjjmgkaaGreat
