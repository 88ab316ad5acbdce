/- The statement 'WindowKnown': for every input the call returns true, and each argument reads afterwards as it read before. -/
import Derived.Test.YtgmnemndjjmgkaaGreatB1
import Derived.Test.YtgmnemndjjmgkaaGreatB28
import Derived.Test.YtgmnemndjjmgkaaGreatB8
set_option linter.unusedSimpArgs false
set_option linter.unusedVariables false
/- Configurations that are valid. -/
namespace Go.Proofs.YtgmnemndjjmgkaaGreat
open Go.RowKit
set_option maxRecDepth 10000
set_option maxHeartbeats 1600000
def cfgB (m E V D : Int) : Bool := decide (m ≥ 1) && (decide (E ≥ 1) && (decide (E ≤ 16384) && (decide (V ≥ 2) && (decide (V ≤ 4096) && (decide (D ≥ 0) && decide (D ≤ 16384))))))
theorem cfgB_iff {m E V D : Int} : cfgB m E V D = true ↔ 1 ≤ m ∧ 1 ≤ E ∧ E ≤ 16384 ∧ 2 ≤ V ∧ V ≤ 4096 ∧ 0 ≤ D ∧ D ≤ 16384 := by
 simp [cfgB]
theorem isConfig_w (m E V D : Int) (w : World) : Calls Tryz.prog 119 #[.agg #[.int .i64 m, .int .i64 E, .int .i64 V, .int .i64 D]] w fun e w' => e = .returned (.bool (cfgB m E V D)) ∧ Fr [] w w' := by
 have HF := Lib.hid ((Fr.refl [] w).alloc (.cells #[.int .i64 m, .int .i64 E, .int .i64 V, .int .i64 D] 55))
 unfold cfgB
 by_cases h0 : m ≥ 1
 {
 have d0 : decide (m ≥ 1) = true := decide_eq_true h0
 by_cases h1 : E ≥ 1
 {
 have d1 : decide (E ≥ 1) = true := decide_eq_true h1
 by_cases h2 : E ≤ 16384
 {
 have d2 : decide (E ≤ 16384) = true := decide_eq_true h2
 by_cases h3 : V ≥ 2
 {
 have d3 : decide (V ≥ 2) = true := decide_eq_true h3
 by_cases h4 : V ≤ 4096
 {
 have d4 : decide (V ≤ 4096) = true := decide_eq_true h4
 by_cases h5 : D ≥ 0
 {
 have d5 : decide (D ≥ 0) = true := decide_eq_true h5
 by_cases h6 : D ≤ 16384
 {
 have d6 : decide (D ≤ 16384) = true := decide_eq_true h6
 rw [d0, d1, d2, d3, d4, d5, d6]
 clear h0 h1 h2 h3 h4 h5 h6
 go_enter Tryz.func119, Tryz.ntmps119
 go_wp2
 go_ret
 exact ⟨rfl, HF.out⟩
 }
 {
 have d6 : decide (D ≤ 16384) = false := decide_eq_false h6
 rw [d0, d1, d2, d3, d4, d5, d6]
 clear h0 h1 h2 h3 h4 h5 h6
 go_enter Tryz.func119, Tryz.ntmps119
 go_wp2
 go_ret
 exact ⟨rfl, HF.out⟩
 }
 }
 {
 have d5 : decide (D ≥ 0) = false := decide_eq_false h5
 rw [d0, d1, d2, d3, d4, d5]
 clear h0 h1 h2 h3 h4 h5
 go_enter Tryz.func119, Tryz.ntmps119
 go_wp2
 go_ret
 exact ⟨rfl, HF.out⟩
 }
 }
 {
 have d4 : decide (V ≤ 4096) = false := decide_eq_false h4
 rw [d0, d1, d2, d3, d4]
 clear h0 h1 h2 h3 h4
 go_enter Tryz.func119, Tryz.ntmps119
 go_wp2
 go_ret
 exact ⟨rfl, HF.out⟩
 }
 }
 {
 have d3 : decide (V ≥ 2) = false := decide_eq_false h3
 rw [d0, d1, d2, d3]
 clear h0 h1 h2 h3
 go_enter Tryz.func119, Tryz.ntmps119
 go_wp2
 go_ret
 exact ⟨rfl, HF.out⟩
 }
 }
 {
 have d2 : decide (E ≤ 16384) = false := decide_eq_false h2
 rw [d0, d1, d2]
 clear h0 h1 h2
 go_enter Tryz.func119, Tryz.ntmps119
 go_wp2
 go_ret
 exact ⟨rfl, HF.out⟩
 }
 }
 {
 have d1 : decide (E ≥ 1) = false := decide_eq_false h1
 rw [d0, d1]
 clear h0 h1
 go_enter Tryz.func119, Tryz.ntmps119
 go_wp2
 go_ret
 exact ⟨rfl, HF.out⟩
 }
 }
 {
 have d0 : decide (m ≥ 1) = false := decide_eq_false h0
 rw [d0]
 clear h0
 go_enter Tryz.func119, Tryz.ntmps119
 go_wp2
 go_ret
 exact ⟨rfl, HF.out⟩
 }
end Go.Proofs.YtgmnemndjjmgkaaGreat

/- A window that is restored: the plain law; Clock.Live; New and from, refused. -/
namespace Go.Proofs.YtgmnemndjjmgkaaGreat
open Go.RowKit
set_option maxRecDepth 10000
set_option maxHeartbeats 1600000
def liveB (m now t : Int) : Bool := decide (t ≤ now ∧ t + m ≤ 9223372036854775807 ∧ now < t + m)
theorem clive_w {w : World} {pc : Nat} {m now : Int} (h : Clk w pc m now) (t : Int) (ht : -9223372036854775808 ≤ t) (ht2 : t ≤ 9223372036854775807) :
    Calls Tryz.prog 69 #[cptr pc, .int .i64 t] w fun e w' => e = .returned (.bool (liveB m now t)) ∧ Fr [] w w' := by
 have HV := Lib.hid (cvalid_w h)
 have HA := Lib.hid (after_w h.m1 h.m2 t ht ht2 w)
 have c0 := h.hd.cell 0
 have c1 := h.hd.cell 1
 simp only [List.getElem?_cons_zero, List.getElem?_cons_succ] at c0 c1
 clear h
 by_cases h1 : t ≤ now
 {
 have d1 : decide (t > now) = false := decide_eq_false (by omega)
 by_cases h2 : t + m ≤ 9223372036854775807
 {
 have e1 : sumC t m = 0 := if_pos h2
 have e2 : sumV t m = t + m := if_pos h2
 rw [e1, e2] at HA
 have e3 : liveB m now t = decide (now < t + m) := decide_eq_decide.2 ⟨fun h => h.2.2, fun h => ⟨h1, h2, h⟩⟩
 rw [e3]
 clear e1 e2 e3 h1 h2
 generalize t + m = x at *
 go_enter Tryz.func69, Tryz.ntmps69
 go_wp2_with fail
 refine HV.out.mono ?_
 rintro _ w ⟨rfl, rfl⟩
 go_wp2_with fail
 refine HA.out.mono ?_
 rintro _ w ⟨rfl, rfl⟩
 go_wp2
 go_ret
 exact ⟨rfl, Fr.refl _ _⟩
 }
 {
 have e1 : sumC t m = 7 := if_neg h2
 rw [e1] at HA
 have e3 : liveB m now t = false := decide_eq_false fun h => h2 h.2.1
 rw [e3]
 clear e1 e3 h1 h2
 generalize sumV t m = x at *
 go_enter Tryz.func69, Tryz.ntmps69
 go_wp2_with fail
 refine HV.out.mono ?_
 rintro _ w ⟨rfl, rfl⟩
 go_wp2_with fail
 refine HA.out.mono ?_
 rintro _ w ⟨rfl, rfl⟩
 go_wp2
 go_ret
 exact ⟨rfl, Fr.refl _ _⟩
 }
 }
 {
 have d1 : decide (t > now) = true := decide_eq_true (by omega)
 have e3 : liveB m now t = false := decide_eq_false fun h => h1 h.1
 rw [e3]
 clear h1 e3 HA
 go_enter Tryz.func69, Tryz.ntmps69
 go_wp2_with fail
 refine HV.out.mono ?_
 rintro _ w ⟨rfl, rfl⟩
 go_wp2
 go_ret
 exact ⟨rfl, Fr.refl _ _⟩
 }
theorem wfrom_no (m D E V : Int) (g : Nat) (w : World) (h : cfgB m E V D = false) :
    Calls Tryz.prog 68 #[.agg #[.int .i64 m, .int .i64 E, .int .i64 V, .int .i64 D], .int .u64 g] w fun e w' => e = .returned (.tuple #[.pointer none, .int .i64 2]) ∧ Fr [] w w' := by
 have HC := isConfig_w m E V D (w.alloc (.cells #[.int .i64 m, .int .i64 E, .int .i64 V, .int .i64 D] 55))
 rw [h] at HC
 have HC := Lib.hid HC
 have hb := Blk.new w [.int .i64 m, .int .i64 E, .int .i64 V, .int .i64 D] 55
 have x0 := hb.cell 0; have x1 := hb.cell 1; have x2 := hb.cell 2; have x3 := hb.cell 3
 simp only [List.getElem?_cons_zero, List.getElem?_cons_succ] at x0 x1 x2 x3
 clear hb h
 go_enter Tryz.func68, Tryz.ntmps68
 go_wp2_with fail
 refine HC.out.mono ?_
 rintro _ w1 ⟨rfl, hF⟩
 have HF := Lib.hid (((Fr.refl [] w).alloc _).trans' hF)
 clear hF x0 x1 x2 x3
 go_wp2
 go_ret2
 exact ⟨rfl, HF.out⟩
theorem wnew_no (m D E V : Int) (w : World) (h : cfgB m E V D = false) :
    Calls Tryz.prog 29 #[.agg #[.int .i64 m, .int .i64 E, .int .i64 V, .int .i64 D]] w fun e w' => e = .returned (.tuple #[.pointer none, .int .i64 2]) ∧ Fr [] w w' := by
 have HF := Lib.hid (wfrom_no m D E V 0 (w.alloc (.cells #[.int .i64 m, .int .i64 E, .int .i64 V, .int .i64 D] 55)) h)
 have hb := Blk.new w [.int .i64 m, .int .i64 E, .int .i64 V, .int .i64 D] 55
 have x0 := hb.cell 0; have x1 := hb.cell 1; have x2 := hb.cell 2; have x3 := hb.cell 3
 simp only [List.getElem?_cons_zero, List.getElem?_cons_succ] at x0 x1 x2 x3
 clear hb h
 go_enter Tryz.func29, Tryz.ntmps29
 go_wp2_with fail
 refine HF.out.mono ?_
 rintro _ w1 ⟨rfl, hF⟩
 have HF := Lib.hid (((Fr.refl [] w).alloc _).trans' hF)
 clear hF x0 x1 x2 x3
 go_wp2
 go_ret2
 exact ⟨rfl, HF.out⟩
def Wm.putT (W : Wm) (u v : Nat) (wt t : Int) (a b : Nat) : Wm := { W with s := W.s.ins u v wt t (t + W.m), Q := fun j => if j = W.s.slot then some (t + W.m) else W.Q j, G := fun j => if j = W.s.slot then some (a, b, t + W.m) else W.G j }
theorem Wm.putT_ok {W : Wm} (h : W.Ok) {u v : Nat} (hu : u < 18446744073709551616) (hv : v < 18446744073709551616) (wt t : Int) (h0 : 0 ≤ t) (h1 : t ≤ W.now) (h2 : W.now < t + W.m) (hlt : ∀ e ∈ W.s.L, e.t ≤ t) (hc : W.s.chk u v = 0) (hl : W.s.last < 9223372036854775807) {a b : Nat}
    (ha : (W.s.ins u v wt t (t + W.m)).M.find u = some a) (hb : (W.s.ins u v wt t (t + W.m)).M.find v = some b) : (W.putT u v wt t a b).Ok := by
 have hL : (W.putT u v wt t a b).s.L = W.s.L ++ [W.s.edge u v wt t (t + W.m)] := rfl
 refine ⟨Sm.ok_ins h.ok hu hv hc (by omega) wt t (t + W.m), h.hV, h.hE, h.lk.ins h.ok hu hv hc wt t (t + W.m) ha hb, fun e he => ?_, ?_, fun i hi => ?_, ?_, ?_, h.m1, h.m2, h.n0, h.n1⟩
 {
 rw [hL, List.mem_append, List.mem_singleton] at he
 rcases he with he | rfl
 · exact h.x e he
 · exact ⟨rfl, h0, h1, h2⟩
 }
 {
 rw [hL, List.pairwise_append]
 exact ⟨h.mono, by simp, fun d hd e he => by
   rw [List.mem_singleton] at he; subst he
   exact hlt d hd⟩
 }
 {
 have hi' : i < (W.s.L ++ [W.s.edge u v wt t (t + W.m)]).length := hi
 show ((W.s.L ++ [W.s.edge u v wt t (t + W.m)])[i]'hi').seq = W.gone + i + 1
 rw [List.getElem_append]
 split
 · exact h.num i _
 {
 have : i = W.s.L.length := by simp at hi'; omega
 subst this
 simp only [Nat.sub_self, List.getElem_singleton]
 show W.s.last + 1 = _
 rw [h.last]
 }
 }
 {
 show W.s.last + 1 = W.gone + (W.s.L ++ [W.s.edge u v wt t (t + W.m)]).length
 rw [h.last]; simp; omega
 }
 {
 show W.s.last + 1 ≤ _
 omega
 }
def Ob.putT (o : Ob) (u v : Nat) (wt t : Int) : Ob := { o with L := o.L ++ [⟨0, o.last + 1, u, v, wt, t, t + o.m⟩], last := o.last + 1 }
theorem ob_putT {W : Wm} (u v : Nat) (wt t : Int) (a b : Nat) : (W.putT u v wt t a b).ob = W.ob.putT u v wt t := by
 show Ob.mk _ _ _ _ _ ((W.s.L ++ [W.s.edge u v wt t (t + W.m)]).map core) (W.s.last + 1) _ = _
 rw [List.map_append]
 rfl
def Ob.chkO (o : Ob) (u v : Nat) : Nat := if u = v then 9 else if o.E ≤ o.L.length then 12 else if o.V < (Ob.idsUV o.L u v).length then 11 else 0
theorem chkO_ob {W : Wm} (h : W.Ok) (u v : Nat) : W.s.chk u v = W.ob.chkO u v := by
 by_cases hne : u = v
 · unfold Sm.chk Ob.chkO; rw [if_pos hne, if_pos hne]
 · rw [chk_ob h u v hne]; unfold Ob.chkO; rw [if_neg hne]; rfl
abbrev R4 := Nat × Nat × Int × Int
def Ob.resOk (o : Ob) (last : Int) (r : R4) : Bool := decide (last ≤ r.2.2.2) && (liveB o.m o.now r.2.2.2 && decide (o.chkO r.1 r.2.1 = 0))
def Ob.resL : Ob → Int → List R4 → Option Ob
  | o, _, [] => some o
  | o, last, r :: rs => if o.resOk last r = true then (o.putT r.1 r.2.1 r.2.2.1 r.2.2.2).resL r.2.2.2 rs else none
def Ob.at (m : Int) (E V : Nat) (D : Int) (now : Int) (g : Nat) : Ob := ⟨m, E, V, D, now, [], g, g⟩
def resO (m E V D now : Int) (g : Nat) (l : List R4) : Option Ob :=
  if g ≤ 9223372036854775807 ∧ cfgB m E V D = true ∧ (l.length : Int) ≤ E ∧ l.length ≤ 9223372036854775807 - g ∧ chkT m 0 now = 0 then (Ob.at m E.toNat V.toNat D now g).resL 0 l else none
end Go.Proofs.YtgmnemndjjmgkaaGreat

/- A window that is restored: the walk of Restore. -/
namespace Go.Proofs.YtgmnemndjjmgkaaGreat
open Go.RowKit
set_option maxRecDepth 10000
set_option maxHeartbeats 3200000
def RcW (w : World) (a : Option Addr) (l : List R4) : Prop :=
  ∀ i (hi : i < l.length), ∃ b off, a = some ⟨b, off, none⟩ ∧ b < w.heap.size ∧ w.cell? ⟨b, off + i * 4, none⟩ = some (.int .u64 l[i].1) ∧ w.cell? ⟨b, off + i * 4 + 1, none⟩ = some (.int .u64 l[i].2.1) ∧
    w.cell? ⟨b, off + i * 4 + 2, none⟩ = some (.int .i64 l[i].2.2.1) ∧ w.cell? ⟨b, off + i * 4 + 3, none⟩ = some (.int .i64 l[i].2.2.2)
def R4.ok (r : R4) : Prop := r.1 < 18446744073709551616 ∧ r.2.1 < 18446744073709551616 ∧ -9223372036854775808 ≤ r.2.2.2 ∧ r.2.2.2 ≤ 9223372036854775807
def RsI (w wr : World) (p : Nat) (last : Int) (l : List R4) (R : Option Ob) : Prop := ∃ X K, WinAt wr p X K ∧ Fr [] w wr ∧ (∀ q ∈ K, w.heap.size ≤ q) ∧ (∀ e ∈ X.s.L, e.t ≤ last) ∧ 0 ≤ last ∧ X.s.L.length + l.length ≤ X.E ∧ X.s.last + l.length ≤ 9223372036854775807 ∧ X.ob.resL last l = R
def RsE (w w' : World) (R : Option Ob) (e : Ending) : Prop := match R with
  | none => e = .returned (.tuple #[.pointer none, .int .i64 2]) ∧ Fr [] w w'
  | some o => ∃ p X K, e = .returned (.tuple #[wptr p, .int .i64 0]) ∧ X.ob = o ∧ WinAt w' p X K ∧ Fr [] w w' ∧ ∀ q ∈ K, w.heap.size ≤ q
theorem wres_w (m E V D now : Int) (g : Nat) (a : Option Addr) (cap : Nat) (l : List R4) (w : World) (hg : g < 18446744073709551616) (hn1 : -9223372036854775808 ≤ now) (hn2 : now ≤ 9223372036854775807) (hm2 : m ≤ 9223372036854775807)
    (hl : l.length ≤ 9223372036854775807) (hrow : RcW w a l) (hok : ∀ r ∈ l, r.ok) :
    Calls Tryz.prog 32 #[.agg #[.int .i64 m, .int .i64 E, .int .i64 V, .int .i64 D], .int .i64 now, .int .u64 g, .slice a l.length cap] w fun e w' => RsE w w' (resO m E V D now g l) e := by
 have hbx := Blk.new w [.int .i64 m, .int .i64 E, .int .i64 V, .int .i64 D] 55
 have hF1 : Fr [] w (w.alloc (.cells #[.int .i64 m, .int .i64 E, .int .i64 V, .int .i64 D] 55)) := (Fr.refl [] w).alloc _
 obtain ⟨w1, hw1⟩ : ∃ w1, w1 = w.alloc (.cells #[.int .i64 m, .int .i64 E, .int .i64 V, .int .i64 D] 55) := ⟨_, rfl⟩
 rw [show w.alloc (.cells [.int .i64 m, .int .i64 E, .int .i64 V, .int .i64 D].toArray 55) = w.alloc (.cells #[.int .i64 m, .int .i64 E, .int .i64 V, .int .i64 D] 55) from rfl, ← hw1] at hbx
 rw [← hw1] at hF1
 have HBx := Lib.hid (And.intro hbx hF1)
 have x0 := hbx.cell 0; have x1 := hbx.cell 1; have x2 := hbx.cell 2; have x3 := hbx.cell 3
 simp only [List.getElem?_cons_zero, List.getElem?_cons_succ] at x0 x1 x2 x3
 rw [hw1] at x0 x1 x2 x3
 have HL := Lib.hid (And.intro hrow hok)
 clear hbx hF1 hrow hok
 by_cases hg1 : g ≤ 9223372036854775807
 {
 have d1 : decide ((g : Int) > 9223372036854775807) = false := decide_eq_false (by omega)
 cases hcf : cfgB m E V D with
 | false => {
 have hR : resO m E V D now g l = none := if_neg (by rw [hcf]; simp)
 rw [hR]
 have HFr := wfrom_no m D E V g w1 hcf
 rw [hw1] at HFr
 have HFr := Lib.hid HFr
 have HW1 := Lib.hid hw1
 clear hR hcf hw1
 go_enter Tryz.func32, Tryz.ntmps32
 go_wp2_with fail
 refine HFr.out.mono ?_
 rintro _ w2 ⟨rfl, hF⟩
 rw [← HW1.out] at hF
 have HF := Lib.hid (HBx.out.2.trans' hF)
 clear hF x0 x1 x2 x3 HFr
 go_wp2
 go_ret2
 exact ⟨rfl, HF.out⟩
 }
 | true => {
 obtain ⟨c1, c2, c3, c4, c5, c6, c7⟩ := cfgB_iff.1 hcf
 obtain ⟨E, rfl⟩ := Int.eq_ofNat_of_zero_le (show 0 ≤ E by omega)
 obtain ⟨V, rfl⟩ := Int.eq_ofNat_of_zero_le (show 0 ≤ V by omega)
 have hfr := wfrom_w m D E V g w1 c1 hm2 (by omega) (by omega) (by omega) (by omega) c6 c7 hg1
 rw [hw1] at hfr
 have HFr := Lib.hid hfr
 have HW1 := Lib.hid hw1
 clear hfr hw1
 by_cases hlE : l.length ≤ E ∧ l.length ≤ 9223372036854775807 - g
 {
 have d2 : decide ((l.length : Int) > E) = false := decide_eq_false (by omega)
 have d2n : decide (E < l.length) = false := decide_eq_false (by omega)
 have d3n : decide (9223372036854775807 - (g : Int) < l.length) = false := decide_eq_false (by omega)
 have hw2 : IntKind.u64.wrap (l.length : Int) = l.length := by simp [IntKind.wrap, IntKind.bits, IntKind.signed]; omega
 have hw3 : IntKind.u64.wrap (9223372036854775807 - (g : Int)) = 9223372036854775807 - (g : Int) := by simp [IntKind.wrap, IntKind.bits, IntKind.signed]; omega
 have d3 : decide ((l.length : Int) > 9223372036854775807 - (g : Int)) = false := decide_eq_false (by omega)
 by_cases hch : chkT m 0 now = 0
 {
 have hR : resO m E V D now g l = (Ob.at m E V D now g).resL 0 l := by {
 unfold resO
 rw [if_pos ⟨hg1, hcf, by omega, hlE.2, hch⟩]
 rfl
 }
 obtain ⟨R, hRR⟩ : ∃ R, R = (Ob.at m E V D now g).resL 0 l := ⟨_, rfl⟩
 rw [hR, ← hRR]
 have HRR := Lib.hid hRR
 clear hRR
 have HPl := Lib.hid (And.intro hch (And.intro hlE.1 hlE.2))
 clear hR hcf hch hlE c1 c2 c3 c4 c5 c6 c7
 go_enter Tryz.func32, Tryz.ntmps32
 go_wp2_with fail
 refine HFr.out.mono ?_
 rintro _ w2 ⟨p, rfl, K, hK, hF2, hnK⟩
 rw [← HW1.out] at hF2 hnK
 have hb2 := hF2.blk HBx.out.1 (by simp)
 have x1 := hb2.cell 1
 simp only [List.getElem?_cons_zero, List.getElem?_cons_succ] at x1
 have HF2 := Lib.hid (And.intro (HBx.out.2.trans' hF2) (show ∀ q ∈ K, w.heap.size ≤ q from fun q hq => Nat.le_trans HBx.out.2.size (hnK q hq)))
 obtain ⟨hokX, pc, ps, px, pf, nq, Ks, lx, Lf, cl, hB, hKe⟩ := hK
 have c4 := hB.hd.cell 4
 simp only [List.getElem?_cons_zero, List.getElem?_cons_succ] at c4
 have HAd := Lib.hid (cadv_yes hB.clk now hn1 hn2 HPl.out.1)
 have HB := Lib.hid (And.intro hokX (And.intro hB hKe))
 clear hF2 hnK hb2 hB hKe hokX x0 x2 x3 HFr HW1
 go_wp2_with fail
 refine HAd.out.mono ?_
 rintro _ w3 ⟨rfl, hclk, hF3⟩
 have hI : RsI w w3 p 0 l R := by {
 rw [HRR.out]
 obtain ⟨q1, q2⟩ := chkT_ok HPl.out.1
 obtain ⟨hokX, hB, rfl⟩ := HB.out
 have hB3 := hB.setClk hclk hF3
 refine ⟨{ (Wm.new m E V D g) with now := now }, winK p pc Ks lx Lf, ⟨?_, pc, ps, px, pf, nq, Ks, lx, Lf, cl, hB3, rfl⟩, HF2.out.1.trans hF3 (fun b hb => ?_), HF2.out.2, fun e he => (by cases he), Int.le_refl _, by show 0 + _ ≤ E; have := HPl.out.2.1; omega, by show g + _ ≤ _; have := HPl.out.2.2; omega, rfl⟩
 · exact ⟨hokX.ok, hokX.hV, hokX.hE, hokX.lk, fun e he => (by cases he), List.Pairwise.nil, fun i hi => absurd hi (Nat.not_lt_zero _), hokX.last, hokX.max, hokX.m1, hokX.m2, q1, q2⟩
 {
 have e : b = pc := by simpa using hb
 exact .inr (by rw [e]; exact HF2.out.2 pc (by simp [winK]))
 }
 }
 have HI := Lib.hid hI
 clear hclk hF3 hI HB HAd c4 x1 HF2
 clear HRR
 go_wp2_with fail
 go_loopw [12, 48] (fun c1 c2 wr => ∃ (i : Nat) (last : Int), i ≤ l.length ∧ c1 = .int .i64 last ∧ c2 = .int .i64 i ∧ Hid (RsI w wr p last (l.drop i) R)) (fun _ c _ => l.length - (intOf c).toNat)
 case atStart => exact ⟨0, 0, Nat.zero_le _, rfl, rfl, HI⟩
 case round =>
  obtain ⟨i, last, hi, rfl, rfl, HR⟩ := hrel
  clear HI
  rename World => wr
  by_cases hil : i < l.length
  {
  have hii : (i : Int) < l.length := by omega
  have hi0 : (0 : Int) ≤ i := by omega
  obtain ⟨X, K, ⟨hokX, pc, ps, px, pf, nq, Ks, lx, Lf, cl, hB, rfl⟩, hF, hnK, hle, hl0, hle1, hle2, hres⟩ := HR.out
  rw [List.drop_eq_getElem_cons hil] at hres hle1 hle2
  have hrok := HL.out.2 _ (List.getElem_mem hil)
  obtain ⟨b, off, rfl, hbw, z0, z1, z2, z3⟩ := HL.out.1 i hil
  generalize l[i]'hil = r at *
  obtain ⟨u, v, wt, t⟩ := r
  obtain ⟨k1, k2, k3, k4⟩ := hrok
  simp only at k1 k2 k3 k4 z0 z1 z2 z3
  have z0 := hF.cell z0 (by simp); have z1 := hF.cell z1 (by simp); have z2 := hF.cell z2 (by simp); have z3 := hF.cell z3 (by simp)
  have hby := Blk.new wr [.int .u64 u, .int .u64 v, .int .i64 wt, .int .i64 t] 42
  have hFa : Fr [] wr (wr.alloc (.cells #[.int .u64 u, .int .u64 v, .int .i64 wt, .int .i64 t] 42)) := (Fr.refl [] wr).alloc _
  have hBa := hB.fr0 hFa
  obtain ⟨wa, hwa⟩ : ∃ wa, wa = wr.alloc (.cells #[.int .u64 u, .int .u64 v, .int .i64 wt, .int .i64 t] 42) := ⟨_, rfl⟩
  rw [show wr.alloc (.cells [.int .u64 u, .int .u64 v, .int .i64 wt, .int .i64 t].toArray 42) = wr.alloc (.cells #[.int .u64 u, .int .u64 v, .int .i64 wt, .int .i64 t] 42) from rfl, ← hwa] at hby
  rw [← hwa] at hFa hBa
  have y0 := hby.cell 0; have y1 := hby.cell 1; have y2 := hby.cell 2; have y3 := hby.cell 3
  have c4 := hBa.hd.cell 4; have c5 := hBa.hd.cell 5
  simp only [List.getElem?_cons_zero, List.getElem?_cons_succ] at y0 y1 y2 y3 c4 c5
  have hLive : ∀ w', Fr [] wa w' → Calls Tryz.prog 69 #[cptr pc, .int .i64 t] w' fun e w'' => e = .returned (.bool (liveB X.m X.now t)) ∧ Fr [] wa w'' := fun w' h => (clive_w (hBa.clk.fr0 h) t k3 k4).mono fun _ _ k => ⟨k.1, h.trans' k.2⟩
  have hChk : ∀ w', Fr [] wa w' → Calls Tryz.prog 70 #[sptr ps, recA u v wt t] w' fun e w'' => e = .returned (.int .i64 (X.s.chk u v)) ∧ Fr [] wa w'' := fun w' h => (st_check (hBa.st.fr0 h) u v k1 k2 wt t).mono fun _ _ k => ⟨k.1, h.trans' k.2⟩
  have HX := Lib.hid (And.intro hokX (And.intro hBa (And.intro (hF.trans' hFa) (And.intro hnK (And.intro hle (And.intro hl0 (And.intro hle1 (And.intro hle2 hres))))))))
  clear hokX hB hBa hF hnK hle hl0 hle1 hle2 hres hby hbw
  have hunf : ∀ {b : Bool}, X.ob.resOk last (u, v, wt, t) = b → (if b = true then (X.ob.putT u v wt t).resL t (l.drop (i + 1)) else none) = R := fun {b} hb => by
    rw [← hb]
    exact HX.out.2.2.2.2.2.2.2.2
  by_cases hlt : t < last
  {
  have d5 : decide (t < last) = true := decide_eq_true hlt
  have hRn : R = none := by {
  have := hunf (b := false) (by unfold Ob.resOk; rw [decide_eq_false (show ¬ last ≤ t by omega)]; rfl)
  exact this.symm
  }
  subst hRn
  clear hlt hunf
  have HLive := Lib.hid hLive
  have HChk := Lib.hid hChk
  have Hwa := Lib.hid hwa
  clear hLive hChk hwa
  go_wp2_with fail
  rw [← Hwa.out]
  refine region_cw (fun w' => Fr [] wa w') (by kernel_rfl) (by kernel_rfl) ((Fr.refl [] wa).drew) ?_
  iterate 1 (refine cw_pure (by kernel_rfl) (fun KK hK => ?_); go_simp; refine hK.out _ ?_; clear hK KK)
  refine cw_val (by kernel_rfl) (.int .i64 t) (fun w' hw' => ?_) ?_
  {
  have y3 := hw'.cell y3 (by simp)
  go_simp
  first | done | exact hw' | exact ⟨rfl, hw'⟩
  }
  iterate 3 (refine cw_pure (by kernel_rfl) (fun KK hK => ?_); go_simp; refine hK.out _ ?_; clear hK KK)
  iterate 8 (refine cw_skip (by kernel_rfl) ?_)
  iterate 2 (refine cw_pure (by kernel_rfl) (fun KK hK => ?_); go_simp; refine hK.out _ ?_; clear hK KK)
  iterate 7 (refine cw_skip (by kernel_rfl) ?_)
  iterate 1 (refine cw_pure (by kernel_rfl) (fun KK hK => ?_); go_simp; refine hK.out _ ?_; clear hK KK)
  refine cw_nil ?_
  intro w6 hF6
  have HF6 := Lib.hid (HX.out.2.2.1.trans' hF6)
  clear hF6 y0 y1 y2 y3 c4 c5 z0 z1 z2 z3 HX HR
  go_wp2
  go_ret2
  exact ⟨rfl, HF6.out⟩
  }
  {
  have d5 : decide (t < last) = false := decide_eq_false hlt
  cases hlv : liveB X.m X.now t with
  | false => {
  have hRn : R = none := by {
  have := hunf (b := false) (by unfold Ob.resOk; rw [show liveB X.ob.m X.ob.now t = false from hlv]; simp)
  exact this.symm
  }
  subst hRn
  rw [hlv] at hLive
  clear hlt hunf hlv
  have HLive := Lib.hid hLive
  have HChk := Lib.hid hChk
  have Hwa := Lib.hid hwa
  clear hLive hChk hwa
  go_wp2_with fail
  rw [← Hwa.out]
  refine region_cw (fun w' => Fr [] wa w') (by kernel_rfl) (by kernel_rfl) ((Fr.refl [] wa).drew) ?_
  iterate 1 (refine cw_pure (by kernel_rfl) (fun KK hK => ?_); go_simp; refine hK.out _ ?_; clear hK KK)
  refine cw_val (by kernel_rfl) (.int .i64 t) (fun w' hw' => ?_) ?_
  {
  have y3 := hw'.cell y3 (by simp)
  go_simp
  first | done | exact hw' | exact ⟨rfl, hw'⟩
  }
  iterate 3 (refine cw_pure (by kernel_rfl) (fun KK hK => ?_); go_simp; refine hK.out _ ?_; clear hK KK)
  iterate 3 (refine cw_pure (by kernel_rfl) (fun KK hK => ?_); go_simp; refine hK.out _ ?_; clear hK KK)
  refine cw_val (by kernel_rfl) (cptr pc) (fun w' hw' => ?_) ?_
  {
  have c4 := hw'.cell c4 (by simp)
  go_simp
  first | done | exact hw' | exact ⟨rfl, hw'⟩
  }
  iterate 1 (refine cw_pure (by kernel_rfl) (fun KK hK => ?_); go_simp; refine hK.out _ ?_; clear hK KK)
  refine cw_val (by kernel_rfl) (.int .i64 t) (fun w' hw' => ?_) ?_
  {
  have y3 := hw'.cell y3 (by simp)
  go_simp
  first | done | exact hw' | exact ⟨rfl, hw'⟩
  }
  refine cw_val (by kernel_rfl) (.bool false) (fun w' hw' => ?_) ?_
  {
  go_simp
  exact HLive.out _ hw'
  }
  iterate 1 (refine cw_pure (by kernel_rfl) (fun KK hK => ?_); go_simp; refine hK.out _ ?_; clear hK KK)
  iterate 2 (refine cw_pure (by kernel_rfl) (fun KK hK => ?_); go_simp; refine hK.out _ ?_; clear hK KK)
  iterate 7 (refine cw_skip (by kernel_rfl) ?_)
  iterate 1 (refine cw_pure (by kernel_rfl) (fun KK hK => ?_); go_simp; refine hK.out _ ?_; clear hK KK)
  refine cw_nil ?_
  intro w6 hF6
  have HF6 := Lib.hid (HX.out.2.2.1.trans' hF6)
  clear hF6 y0 y1 y2 y3 c4 c5 z0 z1 z2 z3 HX HR
  go_wp2
  go_ret2
  exact ⟨rfl, HF6.out⟩
  }
  | true => {
  obtain ⟨cc, hcc⟩ : ∃ cc : Int, cc = (X.s.chk u v : Nat) := ⟨_, rfl⟩
  rw [hlv] at hLive
  rw [← hcc] at hChk
  by_cases hc0 : X.s.chk u v = 0
  {
  have hcc0 : cc = 0 := by rw [hcc, hc0]; rfl
  subst hcc0
  have hR2 := hunf (b := true) (by
    unfold Ob.resOk
    rw [show liveB X.ob.m X.ob.now t = true from hlv, decide_eq_true (show last ≤ t by omega), decide_eq_true (show X.ob.chkO u v = 0 by rw [← chkO_ob HX.out.1]; exact hc0)]; rfl)
  rw [if_pos rfl] at hR2
  have hlv' := of_decide_eq_true hlv
  have hN := winsert_w HX.out.2.1 HX.out.1.lk HX.out.1.ok HX.out.1.hV HX.out.1.hE u v k1 k2 wt t (by have := HX.out.2.2.2.2.2.1; omega) hlv'.2.1 hc0
  have HG := Lib.hid (And.intro hlv' (And.intro hc0 (And.intro hR2 (And.intro (Int.not_lt.1 hlt) (And.intro k1 k2)))))
  clear hlt hunf hlv hc0 hR2 hlv' hcc hN
  have HLive := Lib.hid hLive
  have HChk := Lib.hid hChk
  have Hwa := Lib.hid hwa
  clear hLive hChk hwa
  go_wp2_with fail
  rw [← Hwa.out]
  refine region_cw (fun w' => Fr [] wa w') (by kernel_rfl) (by kernel_rfl) ((Fr.refl [] wa).drew) ?_
  iterate 1 (refine cw_pure (by kernel_rfl) (fun KK hK => ?_); go_simp; refine hK.out _ ?_; clear hK KK)
  refine cw_val (by kernel_rfl) (.int .i64 t) (fun w' hw' => ?_) ?_
  {
  have y3 := hw'.cell y3 (by simp)
  go_simp
  first | done | exact hw' | exact ⟨rfl, hw'⟩
  }
  iterate 3 (refine cw_pure (by kernel_rfl) (fun KK hK => ?_); go_simp; refine hK.out _ ?_; clear hK KK)
  iterate 3 (refine cw_pure (by kernel_rfl) (fun KK hK => ?_); go_simp; refine hK.out _ ?_; clear hK KK)
  refine cw_val (by kernel_rfl) (cptr pc) (fun w' hw' => ?_) ?_
  {
  have c4 := hw'.cell c4 (by simp)
  go_simp
  first | done | exact hw' | exact ⟨rfl, hw'⟩
  }
  iterate 1 (refine cw_pure (by kernel_rfl) (fun KK hK => ?_); go_simp; refine hK.out _ ?_; clear hK KK)
  refine cw_val (by kernel_rfl) (.int .i64 t) (fun w' hw' => ?_) ?_
  {
  have y3 := hw'.cell y3 (by simp)
  go_simp
  first | done | exact hw' | exact ⟨rfl, hw'⟩
  }
  refine cw_val (by kernel_rfl) (.bool true) (fun w' hw' => ?_) ?_
  {
  go_simp
  exact HLive.out _ hw'
  }
  iterate 1 (refine cw_pure (by kernel_rfl) (fun KK hK => ?_); go_simp; refine hK.out _ ?_; clear hK KK)
  iterate 2 (refine cw_pure (by kernel_rfl) (fun KK hK => ?_); go_simp; refine hK.out _ ?_; clear hK KK)
  iterate 3 (refine cw_pure (by kernel_rfl) (fun KK hK => ?_); go_simp; refine hK.out _ ?_; clear hK KK)
  refine cw_val (by kernel_rfl) (sptr ps) (fun w' hw' => ?_) ?_
  {
  have c5 := hw'.cell c5 (by simp)
  go_simp
  first | done | exact hw' | exact ⟨rfl, hw'⟩
  }
  refine cw_val (by kernel_rfl) (recA u v wt t) (fun w' hw' => ?_) ?_
  {
  have y0 := hw'.cell y0 (by simp)
  have y1 := hw'.cell y1 (by simp)
  have y2 := hw'.cell y2 (by simp)
  have y3 := hw'.cell y3 (by simp)
  go_simp
  first | done | exact hw' | exact ⟨rfl, hw'⟩
  }
  refine cw_val (by kernel_rfl) (.int .i64 0) (fun w' hw' => ?_) ?_
  {
  go_simp
  exact HChk.out _ hw'
  }
  iterate 1 (refine cw_pure (by kernel_rfl) (fun KK hK => ?_); go_simp; refine hK.out _ ?_; clear hK KK)
  iterate 1 (refine cw_pure (by kernel_rfl) (fun KK hK => ?_); go_simp; refine hK.out _ ?_; clear hK KK)
  refine cw_nil ?_
  intro w6 hF6
  have hBw := HX.out.2.1.fr0 hF6
  have y0 := hF6.cell y0 (by simp); have y1 := hF6.cell y1 (by simp); have y2 := hF6.cell y2 (by simp); have y3 := hF6.cell y3 (by simp)
  have HN := Lib.hid (winsert_w hBw HX.out.1.lk HX.out.1.ok HX.out.1.hV HX.out.1.hE u v k1 k2 wt t (by have := HX.out.2.2.2.2.2.1; have := HG.out.2.2.2.1; omega) HG.out.1.2.1 HG.out.2.1 (by have h := HX.out.2.2.2.2.2.2.2.1; simp only [List.length_cons] at h; show X.s.last + 1 ≤ _; omega) (by have h := HX.out.2.2.2.2.2.2.2.1; simp only [List.length_cons] at h; show X.s.last + 1 ≤ _; omega))
  have HF6 := Lib.hid hF6
  clear hF6 c4 c5 z0 z1 z2 z3 hBw HR
  go_wp2_with fail
  refine HN.out.mono ?_
  rintro _ w7 ⟨rfl, ea, eb, Ks7, lx7, Lf7, ha, hb, hI7⟩
  have HNew : Hid (RsI w w7 p t (l.drop (i + 1)) R) := Lib.hid (by
    obtain ⟨hokX, hBa, hFw, hnK, hle, hl0, hle1, hle2, _⟩ := HX.out
    obtain ⟨hlv', hc0, hR2, hlt, k1, k2⟩ := HG.out
    obtain ⟨⟨cl7, hB7⟩, hF7, hn7, _⟩ := hI7
    simp only [List.length_cons] at hle1 hle2
    have hs1 := hFw.size
    have hs2 := HF6.out.size
    have hwp : ({ (X.wp nq) with s := (X.wp nq).s.ins u v wt t (t + (X.wp nq).m), Q := fun j => if j = (X.wp nq).s.slot then some (t + (X.wp nq).m) else (X.wp nq).Q j, nq := (X.wp nq).nq + 1, G := fun j => if j = (X.wp nq).s.slot then some (ea, eb, t + (X.wp nq).m) else (X.wp nq).G j, added := (X.wp nq).added + 1 } : Wp) = (X.putT u v wt t ea eb).wp (nq + 1) := by
      simp [Wm.wp, Wm.putT, Sm.ins]
      exact ⟨rfl, rfl⟩
    rw [hwp] at hB7
    refine ⟨X.putT u v wt t ea eb, winK p pc Ks7 lx7 Lf7, ⟨Wm.putT_ok hokX k1 k2 wt t (by omega) hlv'.1 hlv'.2.2 (fun e he => by have := hle e he; omega) hc0 (by omega) ha hb, pc, ps, px, pf, nq + 1, Ks7, lx7, Lf7, cl7, hB7, rfl⟩, (hFw.trans' HF6.out).trans hF7 (fun b hb => .inr (hnK b hb)), fun q hq => ?_, fun e he => ?_, by omega, ?_, ?_, ?_⟩
    · rcases hn7 q hq with h | h
      · exact hnK q h
      · omega
    · have he' : e ∈ X.s.L ++ [X.s.edge u v wt t (t + X.m)] := he
      rw [List.mem_append, List.mem_singleton] at he'
      rcases he' with he' | rfl
      · have := hle e he'; omega
      · exact Int.le_refl _
    · show (X.s.L ++ [X.s.edge u v wt t (t + X.m)]).length + _ ≤ X.E
      rw [List.length_append]; simp only [List.length_cons, List.length_nil]; omega
    · show X.s.last + 1 + _ ≤ _
      omega
    · rw [ob_putT]; exact hR2)
  clear hI7 ha hb HN y0 y1 y2 y3 HX HG
  go_wp2_with fail
  go_roundw
  case rel => exact ⟨i + 1, t, by omega, rfl, by go_num, HNew⟩
  case measure => simp [intOf]; omega
  }
  {
  have hRn : R = none := by {
  have := hunf (b := false) (by unfold Ob.resOk; rw [decide_eq_false (show ¬ X.ob.chkO u v = 0 by rw [← chkO_ob HX.out.1]; exact hc0)]; simp)
  exact this.symm
  }
  subst hRn
  have d6 : (cc != 0) = true := by rw [hcc]; simp; omega
  clear hlt hunf hlv hc0 hcc
  have HLive := Lib.hid hLive
  have HChk := Lib.hid hChk
  have Hwa := Lib.hid hwa
  clear hLive hChk hwa
  go_wp2_with fail
  rw [← Hwa.out]
  refine region_cw (fun w' => Fr [] wa w') (by kernel_rfl) (by kernel_rfl) ((Fr.refl [] wa).drew) ?_
  iterate 1 (refine cw_pure (by kernel_rfl) (fun KK hK => ?_); go_simp; refine hK.out _ ?_; clear hK KK)
  refine cw_val (by kernel_rfl) (.int .i64 t) (fun w' hw' => ?_) ?_
  {
  have y3 := hw'.cell y3 (by simp)
  go_simp
  first | done | exact hw' | exact ⟨rfl, hw'⟩
  }
  iterate 3 (refine cw_pure (by kernel_rfl) (fun KK hK => ?_); go_simp; refine hK.out _ ?_; clear hK KK)
  iterate 3 (refine cw_pure (by kernel_rfl) (fun KK hK => ?_); go_simp; refine hK.out _ ?_; clear hK KK)
  refine cw_val (by kernel_rfl) (cptr pc) (fun w' hw' => ?_) ?_
  {
  have c4 := hw'.cell c4 (by simp)
  go_simp
  first | done | exact hw' | exact ⟨rfl, hw'⟩
  }
  iterate 1 (refine cw_pure (by kernel_rfl) (fun KK hK => ?_); go_simp; refine hK.out _ ?_; clear hK KK)
  refine cw_val (by kernel_rfl) (.int .i64 t) (fun w' hw' => ?_) ?_
  {
  have y3 := hw'.cell y3 (by simp)
  go_simp
  first | done | exact hw' | exact ⟨rfl, hw'⟩
  }
  refine cw_val (by kernel_rfl) (.bool true) (fun w' hw' => ?_) ?_
  {
  go_simp
  exact HLive.out _ hw'
  }
  iterate 1 (refine cw_pure (by kernel_rfl) (fun KK hK => ?_); go_simp; refine hK.out _ ?_; clear hK KK)
  iterate 2 (refine cw_pure (by kernel_rfl) (fun KK hK => ?_); go_simp; refine hK.out _ ?_; clear hK KK)
  iterate 3 (refine cw_pure (by kernel_rfl) (fun KK hK => ?_); go_simp; refine hK.out _ ?_; clear hK KK)
  refine cw_val (by kernel_rfl) (sptr ps) (fun w' hw' => ?_) ?_
  {
  have c5 := hw'.cell c5 (by simp)
  go_simp
  first | done | exact hw' | exact ⟨rfl, hw'⟩
  }
  refine cw_val (by kernel_rfl) (recA u v wt t) (fun w' hw' => ?_) ?_
  {
  have y0 := hw'.cell y0 (by simp)
  have y1 := hw'.cell y1 (by simp)
  have y2 := hw'.cell y2 (by simp)
  have y3 := hw'.cell y3 (by simp)
  go_simp
  first | done | exact hw' | exact ⟨rfl, hw'⟩
  }
  refine cw_val (by kernel_rfl) (.int .i64 cc) (fun w' hw' => ?_) ?_
  {
  go_simp
  exact HChk.out _ hw'
  }
  iterate 1 (refine cw_pure (by kernel_rfl) (fun KK hK => ?_); go_simp; refine hK.out _ ?_; clear hK KK)
  iterate 1 (refine cw_pure (by kernel_rfl) (fun KK hK => ?_); go_simp; refine hK.out _ ?_; clear hK KK)
  refine cw_nil ?_
  intro w6 hF6
  have HF6 := Lib.hid (HX.out.2.2.1.trans' hF6)
  clear hF6 y0 y1 y2 y3 c4 c5 z0 z1 z2 z3 HX HR
  go_wp2
  go_ret2
  exact ⟨rfl, HF6.out⟩
  }
  }
  }
  }
  {
  obtain rfl : i = l.length := by omega
  obtain ⟨X, K, hX, hF, hnK, hle, hl0, hle1, hle2, hres⟩ := HR.out
  rw [List.drop_eq_nil_of_le (Nat.le_refl _)] at hres
  have hRn : R = some X.ob := hres.symm
  subst hRn
  have HX := Lib.hid (And.intro hX (And.intro hF hnK))
  clear hX hF hnK hle hl0 hle1 hle2 hres HR
  go_wp2
  go_ret2
  exact ⟨p, X, K, rfl, rfl, HX.out⟩
  }
 }
 {
 have hR : resO m E V D now g l = none := if_neg (fun h => hch h.2.2.2.2)
 rw [hR]
 obtain ⟨cc, hcc⟩ : ∃ cc, cc = chkT m 0 now := ⟨_, rfl⟩
 have d6 : (cc != 0) = true := by rw [hcc]; simp [hch]
 have HC := Lib.hid (And.intro hcc hch)
 clear hR hcf hlE c1 c2 c3 c4 c5 c6 c7 hcc hch
 go_enter Tryz.func32, Tryz.ntmps32
 go_wp2_with fail
 refine HFr.out.mono ?_
 rintro _ w2 ⟨p, rfl, K, hK, hF2, hnK⟩
 rw [← HW1.out] at hF2 hnK
 have hb2 := hF2.blk HBx.out.1 (by simp)
 have x1 := hb2.cell 1
 simp only [List.getElem?_cons_zero, List.getElem?_cons_succ] at x1
 have HF2 := Lib.hid (HBx.out.2.trans' hF2)
 obtain ⟨hokX, pc, ps, px, pf, nq, Ks, lx, Lf, cl, hB, hKe⟩ := hK
 have c4 := hB.hd.cell 4
 simp only [List.getElem?_cons_zero, List.getElem?_cons_succ] at c4
 have hAd := cadv_no hB.clk now hn1 hn2 HC.out.2
 rw [show chkT (Wm.wp (Wm.new m E V D g) nq).m (Wm.wp (Wm.new m E V D g) nq).now now = cc from HC.out.1.symm] at hAd
 have HAd := Lib.hid hAd
 clear hF2 hnK hb2 hB hKe hokX x0 x2 x3 HFr HW1 hAd
 go_wp2_with fail
 refine HAd.out.mono ?_
 rintro _ w3 ⟨rfl, rfl⟩
 clear c4 x1 HAd
 go_wp2
 go_ret2
 exact ⟨rfl, HF2.out⟩
 }
 }
 {
 have hR : resO m E V D now g l = none := if_neg (fun h => hlE ⟨by omega, h.2.2.2.1⟩)
 rw [hR]
 clear hR hcf c1 c2 c4 c5 c6 c7
 by_cases hl1 : l.length ≤ E
 {
 have d2 : decide ((l.length : Int) > E) = false := decide_eq_false (by omega)
 have d2n : decide (E < l.length) = false := decide_eq_false (by omega)
 have d3n : decide (9223372036854775807 - (g : Int) < l.length) = true := decide_eq_true (by omega)
 have d3 : decide ((l.length : Int) > 9223372036854775807 - (g : Int)) = true := decide_eq_true (by omega)
 have hw2 : IntKind.u64.wrap (l.length : Int) = l.length := by simp [IntKind.wrap, IntKind.bits, IntKind.signed]; omega
 have hw3 : IntKind.u64.wrap (9223372036854775807 - (g : Int)) = 9223372036854775807 - (g : Int) := by simp [IntKind.wrap, IntKind.bits, IntKind.signed]; omega
 clear hlE hl1
 go_enter Tryz.func32, Tryz.ntmps32
 go_wp2_with fail
 refine HFr.out.mono ?_
 rintro _ w2 ⟨p, rfl, K, hK, hF2, hnK⟩
 rw [← HW1.out] at hF2
 have hb2 := hF2.blk HBx.out.1 (by simp)
 have x1 := hb2.cell 1
 simp only [List.getElem?_cons_zero, List.getElem?_cons_succ] at x1
 have HF2 := Lib.hid (HBx.out.2.trans' hF2)
 clear hF2 hnK hb2 hK x0 x2 x3 HFr HW1
 go_wp2
 go_ret2
 exact ⟨rfl, HF2.out⟩
 }
 {
 have d2 : decide ((l.length : Int) > E) = true := decide_eq_true (by omega)
 have d2n : decide (E < l.length) = true := decide_eq_true (by omega)
 clear hlE hl1
 go_enter Tryz.func32, Tryz.ntmps32
 go_wp2_with fail
 refine HFr.out.mono ?_
 rintro _ w2 ⟨p, rfl, K, hK, hF2, hnK⟩
 rw [← HW1.out] at hF2
 have hb2 := hF2.blk HBx.out.1 (by simp)
 have x1 := hb2.cell 1
 simp only [List.getElem?_cons_zero, List.getElem?_cons_succ] at x1
 have HF2 := Lib.hid (HBx.out.2.trans' hF2)
 clear hF2 hnK hb2 hK x0 x2 x3 HFr HW1
 go_wp2
 go_ret2
 exact ⟨rfl, HF2.out⟩
 }
 }
 }
 }
 {
 have hR : resO m E V D now g l = none := if_neg (fun h => hg1 h.1)
 rw [hR]
 have d1 : decide ((g : Int) > 9223372036854775807) = true := decide_eq_true (by omega)
 have HF := Lib.hid HBx.out.2
 rw [hw1] at HF
 clear hR hg1 hw1 HBx
 go_enter Tryz.func32, Tryz.ntmps32
 go_wp2
 go_ret2
 exact ⟨rfl, HF.out⟩
 }
end Go.Proofs.YtgmnemndjjmgkaaGreat

/- A window: New and Restore, over what it shows. -/
namespace Go.Proofs.YtgmnemndjjmgkaaGreat
open Go.RowKit
set_option maxRecDepth 10000
set_option maxHeartbeats 800000
section
variable {W wr w' : World} {p : Nat} {o : Ob} {ts : List Th}
def ResE (W w' : World) (ts : List Th) (R : Option Ob) (e : Ending) : Prop := match R with
  | none => e = .returned (.tuple #[.pointer none, .int .i64 2]) ∧ Wd W w' ts
  | some o => ∃ p, e = .returned (.tuple #[wptr p, .int .i64 0]) ∧ Wd W w' (thO p o :: ts)
theorem td_res (h : Wd W wr ts) (m E V D now : Int) (g : Nat) (a : Option Addr) (cap : Nat) (l : List R4) (hg : g < 18446744073709551616) (hn1 : -9223372036854775808 ≤ now) (hn2 : now ≤ 9223372036854775807) (hm2 : m ≤ 9223372036854775807)
    (hl : l.length ≤ 9223372036854775807) (hrow : RcW wr a l) (hok : ∀ r ∈ l, r.ok) :
    Calls Tryz.prog 32 #[.agg #[.int .i64 m, .int .i64 E, .int .i64 V, .int .i64 D], .int .i64 now, .int .u64 g, .slice a l.length cap] wr fun e w' => ResE W w' ts (resO m E V D now g l) e := by
 refine (wres_w m E V D now g a cap l wr hg hn1 hn2 hm2 hl hrow hok).mono fun e w' k => ?_
 cases hR : resO m E V D now g l with
 | none => rw [hR] at k; exact ⟨k.1, h.fr0 k.2⟩
 | some o => {
 rw [hR] at k
 obtain ⟨p, X, K, k1, k2, k3, k4, k5⟩ := k
 exact ⟨p, k1, h.new k4 ⟨X, k2, k3⟩ k5⟩
 }
end
theorem td_res_some {W wr : World} {ts : List Th} (h : Wd W wr ts) {m E V D now : Int} {g : Nat} {a : Option Addr} {cap : Nat} {l : List R4} {o : Ob} (hR : resO m E V D now g l = some o) (hg : g < 18446744073709551616) (hn1 : -9223372036854775808 ≤ now) (hn2 : now ≤ 9223372036854775807) (hm2 : m ≤ 9223372036854775807)
    (hl : l.length ≤ 9223372036854775807) (hrow : RcW wr a l) (hok : ∀ r ∈ l, r.ok) :
    Calls Tryz.prog 32 #[.agg #[.int .i64 m, .int .i64 E, .int .i64 V, .int .i64 D], .int .i64 now, .int .u64 g, .slice a l.length cap] wr fun e w' => ∃ p, e = .returned (.tuple #[wptr p, .int .i64 0]) ∧ Wd W w' (thO p o :: ts) := by
 have := td_res (cap := cap) h m E V D now g a l hg hn1 hn2 hm2 hl hrow hok
 rw [hR] at this
 exact this
theorem td_res_none {W wr : World} {ts : List Th} (h : Wd W wr ts) {m E V D now : Int} {g : Nat} {a : Option Addr} {cap : Nat} {l : List R4} (hR : resO m E V D now g l = none) (hg : g < 18446744073709551616) (hn1 : -9223372036854775808 ≤ now) (hn2 : now ≤ 9223372036854775807) (hm2 : m ≤ 9223372036854775807)
    (hl : l.length ≤ 9223372036854775807) (hrow : RcW wr a l) (hok : ∀ r ∈ l, r.ok) :
    Calls Tryz.prog 32 #[.agg #[.int .i64 m, .int .i64 E, .int .i64 V, .int .i64 D], .int .i64 now, .int .u64 g, .slice a l.length cap] wr fun e w' => e = .returned (.tuple #[.pointer none, .int .i64 2]) ∧ Wd W w' ts := by
 have := td_res (cap := cap) h m E V D now g a l hg hn1 hn2 hm2 hl hrow hok
 rw [hR] at this
 exact this
end Go.Proofs.YtgmnemndjjmgkaaGreat

/- WindowKnown: the walk. -/
namespace Go.Proofs.YtgmnemndjjmgkaaGreat
open Go.RowKit Classical
set_option maxRecDepth 10000
set_option maxHeartbeats 1600000
theorem RowU.two (w : World) (x y : Nat) : RowU (w.alloc (.cells #[.int .u64 x, .int .u64 y] 26)) (.slice (some ⟨w.heap.size, 0, none⟩) 2 2) [x, y] := by
 refine ⟨by simp [encId], .inr ⟨w.heap.size, 2, #[.int .u64 x, .int .u64 y], rfl, Nat.zero_le _, Blk.new w [.int .u64 x, .int .u64 y] 26, Nat.le_refl _, by decide, by simp, ?_⟩⟩
 rfl
theorem RcW.one (w : World) (u v : Nat) (wt t : Int) : RcW (w.alloc (.cells #[.int .u64 u, .int .u64 v, .int .i64 wt, .int .i64 t] 42)) (some ⟨w.heap.size, 0, none⟩) [(u, v, wt, t)] := by
 intro i hi
 have hb := Blk.new w [.int .u64 u, .int .u64 v, .int .i64 wt, .int .i64 t] 42
 have : i = 0 := by simp at hi; omega
 subst this
 exact ⟨w.heap.size, 0, rfl, by simp, hb.cell 0, hb.cell 1, hb.cell 2, hb.cell 3⟩
theorem RcW.nil (w : World) (a : Option Addr) : RcW w a [] := fun i hi => absurd hi (Nat.not_lt_zero _)
def kO (now : Int) (L : List Lv) (last gone : Nat) : Ob := ⟨10, 3, 4, 0, now, L, last, gone⟩
def kE1 : Lv := ⟨0, 1, 1, 2, 5, 0, 10⟩
def kE2 : Lv := ⟨0, 2, 2, 3, 7, 4, 14⟩
def kE3 : Lv := ⟨0, 3, 1, 3, 9, 6, 16⟩
def kE4 : Lv := ⟨0, 4, 4, 2, 1, 10, 20⟩
def kM : Ob := Ob.new 9223372036854775807 16384 4096 16384 0
def kR : Ob := ⟨10, 3, 4, 0, 5, [⟨0, 9223372036854775807, 1, 2, 0, 5, 15⟩], 9223372036854775807, 9223372036854775806⟩
theorem k_comp : compI [kE2, kE3, kE4] = 1 := by
 have h23 : Rl [kE2, kE3, kE4] allT 2 3 := .edge (e := kE2) (by simp) (by decide)
 have h13 : Rl [kE2, kE3, kE4] allT 1 3 := .edge (e := kE3) (by simp) (by decide)
 have h42 : Rl [kE2, kE3, kE4] allT 4 2 := .edge (e := kE4) (by simp) (by decide)
 have e : idsL [kE2, kE3, kE4] = [1, 2, 3, 4] := by decide
 unfold compI
 rw [e]
 have a1 : ∃ b ∈ [2, 3, 4], Rl [kE2, kE3, kE4] allT 1 b := ⟨3, by simp, h13⟩
 have a2 : ∃ b ∈ [3, 4], Rl [kE2, kE3, kE4] allT 2 b := ⟨3, by simp, h23⟩
 have a3 : ∃ b ∈ [4], Rl [kE2, kE3, kE4] allT 3 b := ⟨4, by simp, (h42.trans h23).symm⟩
 simp only [ncl]
 rw [if_pos a1, if_pos a2, if_pos a3]
 simp
theorem k_code : codeI [kE4] 1 2 = 13 := by
 refine if_neg fun h => ?_
 obtain ⟨e, he, hat⟩ := h.1
 have : e = kE4 := by simpa using he
 rw [this] at hat
 revert hat; decide
theorem k_at {w : World} {a : Option Addr} {len cap : Nat} {l : List Lv} {x : Lv} (h : RowV w (.slice a len cap) l) (hx : l.map core = [x]) : ∃ b s, a = some ⟨b, 0, none⟩ ∧ len = 1 ∧ ∀ w', RowV w' (.slice (some ⟨b, 0, none⟩) 1 cap) l → LvAt w' b 0 { x with slot := s } := by
 obtain ⟨d, rfl, hd⟩ : ∃ d, l = [d] ∧ core d = x := by {
 cases l with
 | nil => cases hx
 | cons d r => {
 cases r with
 | nil => exact ⟨d, rfl, by simpa using hx⟩
 | cons e r => simp at hx
 }
 }
 obtain ⟨b, cap', ev, _, _, _, hc⟩ := h.at (i := 0) (by simp)
 simp only [Value.slice.injEq] at ev
 obtain ⟨rfl, rfl, rfl⟩ := ev
 refine ⟨b, d.slot, rfl, rfl, fun w' h' => ?_⟩
 obtain ⟨b', cap', ev, _, _, _, hc'⟩ := h'.at (i := 0) (by simp)
 simp only [Value.slice.injEq, Option.some.injEq, Addr.mk.injEq, and_true] at ev
 rw [← ev.1] at hc'
 rw [← hd]
 exact hc'
theorem walk_windowKnown (W : World) : Calls Tryz.prog 7 #[] W fun e w' => e = .returned (.bool true) ∧ Below W.heap.size W w' := by
 have HWk := Lib.hid (fun w => works37_w w)
 have HS := Lib.hid (small_w W)
 go_enter Tryz.func7, Tryz.ntmps7
 go_wp2_with fail
 refine HS.out.mono ?_
 rintro _ w1 ⟨rfl, hF⟩
 have H := Lib.hid (td_new (Wd.base hF) 10 0 3 4 (by omega) (by omega) (by omega) (by omega) (by omega) (by omega) (by omega) (by omega))
 clear hF HS
 go_wp2_with fail
 refine H.out.mono ?_
 rintro _ w1 ⟨p, rfl, hW⟩
 have hW : Wd W w1 [thO p (kO 0 [] 0 0)] := hW
 have h1 := td_add hW 1 2 (by omega) (by omega) 5 0 (by omega) (by omega)
 rw [show Ob.addC (kO 0 [] 0 0) 1 2 0 = 0 from by decide, show Ob.add (kO 0 [] 0 0) 1 2 5 0 = kO 0 [kE1] 1 0 from by rfl] at h1
 have H := Lib.hid h1
 clear hW h1
 go_wp2_with fail
 refine H.out.mono ?_
 rintro _ w1 ⟨rfl, hW⟩
 clear H
 have h1 := td_add hW 2 3 (by omega) (by omega) 7 4 (by omega) (by omega)
 rw [show Ob.addC (kO 0 [kE1] 1 0) 2 3 4 = 0 from by decide, show Ob.add (kO 0 [kE1] 1 0) 2 3 7 4 = kO 4 [kE1, kE2] 2 0 from by rfl] at h1
 have H := Lib.hid h1
 clear hW h1
 go_wp2_with fail
 refine H.out.mono ?_
 rintro _ w1 ⟨rfl, hW⟩
 clear H
 have h1 := td_add hW 3 3 (by omega) (by omega) 0 4 (by omega) (by omega)
 rw [show Ob.addC (kO 4 [kE1, kE2] 2 0) 3 3 4 = 9 from by decide, show Ob.add (kO 4 [kE1, kE2] 2 0) 3 3 0 4 = kO 4 [kE1, kE2] 2 0 from by rfl] at h1
 have H := Lib.hid h1
 clear hW h1
 go_wp2_with fail
 refine H.out.mono ?_
 rintro _ w1 ⟨rfl, hW⟩
 clear H
 have h1 := td_add hW 1 3 (by omega) (by omega) 9 3 (by omega) (by omega)
 rw [show Ob.addC (kO 4 [kE1, kE2] 2 0) 1 3 3 = 10 from by decide, show Ob.add (kO 4 [kE1, kE2] 2 0) 1 3 9 3 = kO 4 [kE1, kE2] 2 0 from by rfl] at h1
 have H := Lib.hid h1
 clear hW h1
 go_wp2_with fail
 refine H.out.mono ?_
 rintro _ w1 ⟨rfl, hW⟩
 clear H
 have h1 := td_add hW 1 3 (by omega) (by omega) 9 6 (by omega) (by omega)
 rw [show Ob.addC (kO 4 [kE1, kE2] 2 0) 1 3 6 = 0 from by decide, show Ob.add (kO 4 [kE1, kE2] 2 0) 1 3 9 6 = kO 6 [kE1, kE2, kE3] 3 0 from by rfl] at h1
 have H := Lib.hid h1
 clear hW h1
 go_wp2_with fail
 refine H.out.mono ?_
 rintro _ w1 ⟨rfl, hW⟩
 clear H
 have h1 := td_add hW 4 2 (by omega) (by omega) 1 10 (by omega) (by omega)
 rw [show Ob.addC (kO 6 [kE1, kE2, kE3] 3 0) 4 2 10 = 0 from by decide, show Ob.add (kO 6 [kE1, kE2, kE3] 3 0) 4 2 1 10 = kO 10 [kE2, kE3, kE4] 4 1 from by rfl] at h1
 have H := Lib.hid h1
 clear hW h1
 go_wp2_with fail
 refine H.out.mono ?_
 rintro _ w1 ⟨rfl, hW⟩
 clear H
 have h1 := td_count hW
 rw [show (kO 10 [kE2, kE3, kE4] 4 1).L = [kE2, kE3, kE4] from rfl, k_comp, show (idsL [kE2, kE3, kE4]).length = 4 from by decide] at h1
 have H := Lib.hid h1
 have HW := Lib.hid hW
 clear hW h1
 go_wp2_with fail
 refine H.out.mono ?_
 rintro _ w1 ⟨rfl, hF⟩
 have hW := HW.out.fr0 hF
 clear H HW hF
 have H := Lib.hid (td_version hW)
 have HW := Lib.hid hW
 clear hW
 go_wp2_with fail
 refine H.out.mono ?_
 rintro _ w1 ⟨rfl, hF⟩
 have hW := HW.out.fr0 hF
 clear H HW hF
 have h1 := td_tick hW 16 (by omega) (by omega)
 rw [show chkT (Ob.m (kO 10 [kE2, kE3, kE4] 4 1)) (Ob.now (kO 10 [kE2, kE3, kE4] 4 1)) 16 = 0 from by decide, show Ob.tickS (kO 10 [kE2, kE3, kE4] 4 1) 16 = kO 16 [kE4] 4 3 from by rfl] at h1
 have H := Lib.hid h1
 clear hW h1
 go_wp2_with fail
 refine H.out.mono ?_
 rintro _ w1 ⟨rfl, hW⟩
 clear H
 have h1 := td_ids hW
 rw [show idsL (kO 16 [kE4] 4 3).L = [2, 4] from by decide] at h1
 have H := Lib.hid h1
 clear hW h1
 go_wp2_with fail
 refine H.out.mono ?_
 rintro _ w1 ⟨iv, rfl, hW⟩
 have HI := Lib.hid (ids37_w (hW.rowU.fr0 ((Fr.refl [] w1).alloc (.cells #[.int .u64 2, .int .u64 4] 26))) (RowU.two w1 2 4) (by decide))
 have HW := Lib.hid (hW.drop.fr0 ((Fr.refl [] w1).alloc (.cells #[.int .u64 2, .int .u64 4] 26)))
 clear hW H
 go_wp2_with fail
 refine HI.out.mono ?_
 rintro _ w1 ⟨rfl, hF⟩
 have hW := HW.out.fr0 hF
 clear HI HW hF
 have h1 := td_conn hW 1 2 (by omega) (by omega)
 rw [show (kO 16 [kE4] 4 3).L = [kE4] from rfl, k_code] at h1
 have H := Lib.hid h1
 clear hW h1
 go_wp2_with fail
 refine H.out.mono ?_
 rintro _ w1 ⟨rfl, hW⟩
 clear H
 have H := Lib.hid (td_added hW)
 have HW := Lib.hid hW
 clear hW
 go_wp2_with fail
 refine H.out.mono ?_
 rintro _ w1 ⟨rfl, hF⟩
 have hW := HW.out.fr0 hF
 clear H HW hF
 have H := Lib.hid (td_live hW)
 clear hW
 go_wp2_with fail
 refine H.out.mono ?_
 rintro _ w1 ⟨lv, l, rfl, hl, hW⟩
 clear H
 obtain ⟨la, lc, rfl⟩ := hW.rowV.slice
 obtain ⟨b, s, rfl, hlen, hat⟩ := k_at hW.rowV hl.1
 rw [hlen] at hW ⊢
 have r1 := hat _ hW.rowV
 have Hat := Lib.hid (And.intro hlen hat)
 clear hlen hat hl
 obtain ⟨r0, r1, r2, r3, r4, r5, r6⟩ := r1
 have hW := hW.swap
 have hre := rcEq_self 4 2 1 10
 have HW0 := Lib.hid hW
 clear hW
 have hW := HW0.out
 clear HW0
 have h1 := td_tick hW 15 (by omega) (by omega)
 rw [show chkT (Ob.m (kO 16 [kE4] 4 3)) (Ob.now (kO 16 [kE4] 4 3)) 15 = 10 from by decide, show Ob.tickS (kO 16 [kE4] 4 3) 15 = kO 16 [kE4] 4 3 from by rfl] at h1
 have H := Lib.hid h1
 clear hW h1
 go_wp2_with fail
 refine H.out.mono ?_
 rintro _ w1 ⟨rfl, hW⟩
 clear H
 have h1 := td_tick hW 9223372036854775798 (by omega) (by omega)
 rw [show chkT (Ob.m (kO 16 [kE4] 4 3)) (Ob.now (kO 16 [kE4] 4 3)) 9223372036854775798 = 7 from by decide, show Ob.tickS (kO 16 [kE4] 4 3) 9223372036854775798 = kO 16 [kE4] 4 3 from by rfl] at h1
 have H := Lib.hid h1
 clear hW h1
 go_wp2_with fail
 refine H.out.mono ?_
 rintro _ w1 ⟨rfl, hW⟩
 clear H
 have h1 := td_add hW 1 2 (by omega) (by omega) 0 9223372036854775798 (by omega) (by omega)
 rw [show Ob.addC (kO 16 [kE4] 4 3) 1 2 9223372036854775798 = 7 from by decide, show Ob.add (kO 16 [kE4] 4 3) 1 2 0 9223372036854775798 = kO 16 [kE4] 4 3 from by rfl] at h1
 have H := Lib.hid h1
 clear hW h1
 go_wp2_with fail
 refine H.out.mono ?_
 rintro _ w1 ⟨rfl, hW⟩
 clear H
 have hF := hW.frm
 have HF := Lib.hid hF
 clear hW hF r0 r1 r2 r3 r4 r5 r6 Hat hre
 go_wp2_with fail
 obtain ⟨w2, hw2⟩ : ∃ w2, w2 = w1.alloc (.cells #[.int .i64 0, .int .i64 0, .int .i64 0, .int .i64 0, .int .i64 0, .int .i64 1, .int .i64 2, .int .i64 0, .int .i64 1, .int .i64 0, .int .i64 2, .int .i64 0, .int .i64 1, .int .i64 1, .int .i64 1, .int .i64 0, .int .i64 1, .int .i64 16385, .int .i64 2, .int .i64 0, .int .i64 1, .int .i64 1, .int .i64 4097, .int .i64 0, .int .i64 1, .int .i64 1, .int .i64 2, .int .i64 (-1), .int .i64 1, .int .i64 1, .int .i64 2, .int .i64 16385] 55) := ⟨_, rfl⟩
 rw [← hw2]
 have hF2 : Fr [] w1 w2 := by rw [hw2]; exact (Fr.refl [] w1).alloc _
 have hb2 : Blk w2 w1.heap.size 55 [.int .i64 0, .int .i64 0, .int .i64 0, .int .i64 0, .int .i64 0, .int .i64 1, .int .i64 2, .int .i64 0, .int .i64 1, .int .i64 0, .int .i64 2, .int .i64 0, .int .i64 1, .int .i64 1, .int .i64 1, .int .i64 0, .int .i64 1, .int .i64 16385, .int .i64 2, .int .i64 0, .int .i64 1, .int .i64 1, .int .i64 4097, .int .i64 0, .int .i64 1, .int .i64 1, .int .i64 2, .int .i64 (-1), .int .i64 1, .int .i64 1, .int .i64 2, .int .i64 16385] := by rw [hw2]; exact Blk.new w1 _ _
 obtain ⟨bo, hbo⟩ : ∃ bo, bo = w1.heap.size := ⟨_, rfl⟩
 rw [← hbo] at hb2 ⊢
 have HF2 := Lib.hid (HF.out.trans' hF2)
 have HB2 := Lib.hid hb2
 clear hF2 hb2 hw2 hbo HF
 have key : ∀ (wr : World) (i : Nat), Fr [] w2 wr → i < 8 → ∃ m E V D, wr.cell? ⟨bo, i * 4, none⟩ = some (.int .i64 m) ∧ wr.cell? ⟨bo, i * 4 + 1, none⟩ = some (.int .i64 E) ∧ wr.cell? ⟨bo, i * 4 + 2, none⟩ = some (.int .i64 V) ∧ wr.cell? ⟨bo, i * 4 + 3, none⟩ = some (.int .i64 D) ∧ cfgB m E V D = false ∧ m ≤ 9223372036854775807 := by {
 intro wr i hF hi
 have hb := hF.blk HB2.out (by simp)
 match i, hi with
 | 0, _ => exact ⟨0, 0, 0, 0, hb.cell 0, hb.cell 1, hb.cell 2, hb.cell 3, by decide, by decide⟩
 | 1, _ => exact ⟨0, 1, 2, 0, hb.cell 4, hb.cell 5, hb.cell 6, hb.cell 7, by decide, by decide⟩
 | 2, _ => exact ⟨1, 0, 2, 0, hb.cell 8, hb.cell 9, hb.cell 10, hb.cell 11, by decide, by decide⟩
 | 3, _ => exact ⟨1, 1, 1, 0, hb.cell 12, hb.cell 13, hb.cell 14, hb.cell 15, by decide, by decide⟩
 | 4, _ => exact ⟨1, 16385, 2, 0, hb.cell 16, hb.cell 17, hb.cell 18, hb.cell 19, by decide, by decide⟩
 | 5, _ => exact ⟨1, 1, 4097, 0, hb.cell 20, hb.cell 21, hb.cell 22, hb.cell 23, by decide, by decide⟩
 | 6, _ => exact ⟨1, 1, 2, (-1), hb.cell 24, hb.cell 25, hb.cell 26, hb.cell 27, by decide, by decide⟩
 | 7, _ => exact ⟨1, 1, 2, 16385, hb.cell 28, hb.cell 29, hb.cell 30, hb.cell 31, by decide, by decide⟩
 }
 have HK := Lib.hid key
 clear key HB2
 go_loopw [12] (fun c wr => ∃ (i : Nat), i ≤ 8 ∧ c = .int .i64 i ∧ Hid (Fr [] w2 wr)) (fun c _ => 8 - (intOf c).toNat)
 case atStart => exact ⟨0, by omega, rfl, Lib.hid (Fr.refl _ _)⟩
 case round =>
  obtain ⟨i, hi, rfl, HF⟩ := hrel
  rename World => wr
  by_cases hi8 : i < 8
  {
  have hii : (i : Int) < 8 := by omega
  have hi0 : (0 : Int) ≤ i := by omega
  obtain ⟨m, E, V, D, q0, q1, q2, q3, hcf, hm⟩ := HK.out wr i HF.out hi8
  have HN := Lib.hid (wnew_no m D E V wr hcf)
  have Hcf := Lib.hid (And.intro hcf hm)
  clear hcf hm
  go_wp2_with fail
  refine HN.out.mono ?_
  rintro _ w3 ⟨rfl, hF3⟩
  have q0 := hF3.cell q0 (by simp); have q1 := hF3.cell q1 (by simp); have q2 := hF3.cell q2 (by simp); have q3 := hF3.cell q3 (by simp)
  have HR := Lib.hid (td_res_none (cap := 0) (Wd.begin w3) (a := none) (l := []) (m := m) (E := E) (V := V) (D := D) (now := 0) (g := 0) (if_neg fun h => by have h1 := h.2.1; rw [Hcf.out.1] at h1; cases h1) (by omega) (by omega) (by omega) Hcf.out.2 (by simp) (RcW.nil _ _) (by simp))
  have HF3 := Lib.hid (HF.out.trans' hF3)
  clear hF3 HN
  go_wp2_with fail
  refine HR.out.mono ?_
  rintro _ w4 ⟨rfl, hW4⟩
  have HF4 := Lib.hid (HF3.out.trans' hW4.frm)
  clear hW4 HR q0 q1 q2 q3 HF3
  go_wp2_with fail
  go_roundw
  case rel => exact ⟨i + 1, by omega, by go_num, HF4⟩
  case measure => simp [intOf]; omega
  }
  {
  obtain rfl : i = 8 := by omega
  have H := Lib.hid (td_new (Wd.base (HF2.out.trans' HF.out)) 9223372036854775807 16384 16384 4096 (by omega) (by omega) (by omega) (by omega) (by omega) (by omega) (by omega) (by omega))
  clear HF HF2 HK
  go_wp2_with fail
  refine H.out.mono ?_
  rintro _ w1 ⟨p, rfl, hW⟩
  have hW : Wd W w1 [thO p kM] := hW
  clear H
  have h1 := td_tick hW 1 (by omega) (by omega)
  rw [show chkT (Ob.m (kM)) (Ob.now (kM)) 1 = 7 from by decide, show Ob.tickS (kM) 1 = kM from by rfl] at h1
  have H := Lib.hid h1
  clear hW h1
  go_wp2_with fail
  refine H.out.mono ?_
  rintro _ w1 ⟨rfl, hW⟩
  clear H
  have h1 := td_add hW 0 18446744073709551615 (by omega) (by omega) 0 0 (by omega) (by omega)
  rw [show Ob.addC kM 0 18446744073709551615 0 = 0 from by decide] at h1
  have H := Lib.hid h1
  clear hW h1
  go_wp2_with fail
  refine H.out.mono ?_
  rintro _ w1 ⟨rfl, hW⟩
  clear H
  have HF := Lib.hid hW.frm
  clear hW
  have HS := Lib.hid (small_w w1)
  go_wp2_with fail
  refine HS.out.mono ?_
  rintro _ w2 ⟨rfl, hF⟩
  have hF2 := (HF.out.trans' hF).alloc (.cells #[.int .u64 1, .int .u64 2, .int .i64 0, .int .i64 5] 42)
  have H := Lib.hid (td_res_some (cap := 1) (Wd.base hF2) (o := kR) (m := 10) (E := 3) (V := 4) (D := 0) (now := 5) (g := 9223372036854775806) (l := [(1, 2, 0, 5)]) (by rfl) (by omega) (by omega) (by omega) (by omega) (by simp) (RcW.one w2 1 2 0 5) (by intro r hr; rw [List.mem_singleton.1 hr]; exact ⟨by decide, by decide, by decide, by decide⟩))
  clear hF hF2 HF HS
  go_wp2_with fail
  refine H.out.mono ?_
  rintro _ w2 ⟨p2, rfl, hW⟩
  clear H
  have HW := Lib.hid hW
  clear hW
  have HS := Lib.hid (small_w w2)
  go_wp2_with fail
  refine HS.out.mono ?_
  rintro _ w3 ⟨rfl, hF⟩
  have hW := HW.out.fr0 (hF.alloc (.cells #[.int .u64 1, .int .u64 2, .int .i64 0, .int .i64 5] 42))
  have H := Lib.hid (td_res_none (cap := 1) hW (m := 10) (E := 3) (V := 4) (D := 0) (now := 5) (g := 9223372036854775807) (l := [(1, 2, 0, 5)]) (by rfl) (by omega) (by omega) (by omega) (by omega) (by simp) (RcW.one w3 1 2 0 5) (by intro r hr; rw [List.mem_singleton.1 hr]; exact ⟨by decide, by decide, by decide, by decide⟩))
  clear hF hW HW HS
  go_wp2_with fail
  refine H.out.mono ?_
  rintro _ w3 ⟨rfl, hW⟩
  clear H
  have h1 := td_add hW 2 3 (by omega) (by omega) 0 6 (by omega) (by omega)
  rw [show Ob.addC (kR) 2 3 6 = 7 from by decide, show Ob.add (kR) 2 3 0 6 = kR from by rfl] at h1
  have H := Lib.hid h1
  clear hW h1
  go_wp2_with fail
  refine H.out.mono ?_
  rintro _ w1 ⟨rfl, hW⟩
  clear H
  have H := Lib.hid (td_now hW)
  have HW := Lib.hid hW
  clear hW
  rw [show kR.now = 5 from rfl] at H
  go_wp2_with fail
  refine H.out.mono ?_
  rintro _ _ ⟨rfl, rfl⟩
  have hW := HW.out
  clear H HW
  have h1 := td_version hW
  rw [show kR.last + kR.gone = 18446744073709551613 from rfl] at h1
  have H := Lib.hid h1
  have HW := Lib.hid hW
  clear hW h1
  go_wp2_with fail
  refine H.out.mono ?_
  rintro _ w1 ⟨rfl, hF⟩
  have hW := HW.out.fr0 hF
  clear H HW hF
  have h1 := td_tick hW 15 (by omega) (by omega)
  rw [show chkT (Ob.m (kR)) (Ob.now (kR)) 15 = 0 from by decide, show Ob.tickS (kR) 15 = ⟨10, 3, 4, 0, 15, [], 9223372036854775807, 9223372036854775807⟩ from by rfl] at h1
  have H := Lib.hid h1
  clear hW h1
  go_wp2_with fail
  refine H.out.mono ?_
  rintro _ w1 ⟨rfl, hW⟩
  clear H
  have h1 := td_version hW
  rw [show (9223372036854775807 : Nat) + 9223372036854775807 = 18446744073709551614 from rfl] at h1
  have H := Lib.hid h1
  have HW := Lib.hid hW
  clear hW h1
  go_wp2_with fail
  refine H.out.mono ?_
  rintro _ w1 ⟨rfl, hF⟩
  have hW := HW.out.fr0 hF
  clear H HW hF
  have HF := Lib.hid hW.frm
  clear hW
  go_wp2_with fail
  refine (HWk.out _).mono ?_
  rintro _ w12 ⟨rfl, hF⟩
  have HG := Lib.hid (HF.out.trans' hF); clear hF
  go_wp2
  go_ret
  exact ⟨rfl, HG.out.below (by simp)⟩
  }
end Go.Proofs.YtgmnemndjjmgkaaGreat

namespace Go.Proofs.YtgmnemndjjmgkaaGreat.windowKnown
open Go.ChangeShapes Go.WideShapes Go.ChangeAt Go.RowKit
set_option linter.unusedVariables false
theorem own : ownKnob Tryz.prog.godebug = none := by kernel_rfl
theorem laidOut : laidOutB Tryz.prog = true := by kernel_rfl
set_option maxRecDepth 100000 in
theorem lifted (os : Os) (started : os.Started) (H : Type) (enc : TypeId × Value → H) :
    ReturnsInHanded {} Tryz.checked os 7 .any (Rows.windowKnownSpec.pre6 enc Tryz.prog Tryz.f7 Rows.windowKnownRow.domain false) (Rows.windowKnownSpec.post enc Tryz.prog Tryz.f7 false true false false) := by
 refine returnsInHanded_of_change (C := Tryz.checked) own started (by kernel_rfl) Tryz.func7
   (ChangeSpec.witness6 (enc := enc) (C := Tryz.checked) false ⟨#[], #[], []⟩ 8 (by kernel_rfl) (by kernel_rfl) (by kernel_rfl) (by kernel_rfl)) ?_
 intro W base args ds gs before hval0 hW hcnd _
 have hval : ∀ (j : Nat) t v, Tryz.f7.params[j]? = some t → args[j]? = some v → Value.okWide Tryz.prog W .any base t v := hval0
 have hW' := hW
 obtain ⟨p, q, hA0, hV, rfl, hfz, hnd⟩ := hW
 have hA : DataW.TrodAll enc Tryz.prog W 0 (fun _ => true) true Tryz.f7.params.toList args.toList ds p := hA0
 rw [Tryz.params7] at hA hval
 obtain ⟨hargs, rfl, rfl⟩ := trodAll_nil hA
 obtain rfl : args = #[] := by cases args; simp_all
 obtain ⟨rfl, rfl⟩ := trodVars_none hV
 clear hA0 hval0
 refine (walk_windowKnown W ).mono fun e W' ⟨he, bel⟩ => ?_
 subst he
 exact ⟨_, rfl, _, _, _, [], _, [], hW', trodAll_mk1 (shut_bool Tryz.underlying4 _), trodAll_mk0, rfl, bel.frame _, fun h => by cases h⟩
theorem over : Rows.windowKnownRow.holds Tryz.pinned (OpenSpec.ofChange Rows.windowKnownSpec) :=
  OpenClaim.holds_of_wide 7 Tryz.f7 rfl rfl rfl rfl rfl rfl rfl ⟨rfl, rfl, rfl, rfl, rfl⟩ rfl rfl rfl rfl rfl (by kernel_rfl) Tryz.func7 (by kernel_rfl)
    (of_decide_eq_true (by kernel_rfl)) (by unfold Func.isWrapper; first | (rw [if_pos (by decide +kernel)]; kernel_rfl) | (rw [if_neg (by decide +kernel)]; exact ⟨rfl, rfl⟩))
    (fun os started H enc _ => lifted os started H enc)
end Go.Proofs.YtgmnemndjjmgkaaGreat.windowKnown
namespace Go.Proofs.YtgmnemndjjmgkaaGreat
theorem windowKnown_holds : Rows.WindowKnownSaid := windowKnown.over
#print axioms windowKnown_holds
end Go.Proofs.YtgmnemndjjmgkaaGreat
