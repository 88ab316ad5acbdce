/- forest: its contracts, for the laws. -/
import Derived.Deep.RegionHeld3
import Derived.Test.YtgmnemndjjmgkaaGreatB10
import Derived.Test.YtgmnemndjjmgkaaGreatB9
import Derived.Test.YtgmnemndjjmgkaaGreatB5
import Derived.Maps.RangeWalk
import Derived.Test.YtgmnemndjjmgkaaGreatB3
import Derived.Shelf.Sort.Plain
import Derived.Shelf.Lay
import Derived.Shelf.Small.Bits
import Derived.Ground.NamesProg
import Derived.Sort.OwnSortedInts
import Derived.Test.YtgmnemndjjmgkaaGreatB1
set_option linter.unusedSimpArgs false
set_option linter.unusedVariables false
/- forest: loosen and fasten. -/
namespace Go.Proofs.YtgmnemndjjmgkaaGreat
open Go.RowKit Classical
set_option maxRecDepth 10000
set_option maxHeartbeats 1600000
theorem inV_lt {N a : Nat} (h : a < N) : inV N (a : Int) = true := by simp [inV]; omega
section
variable {w w' : World} {pl g N : Nat} {E : Nat → Nat → Prop} {key : Nat → Int}
theorem cut_ok (h : LM w pl g N E key) {a b : Nat} (ha : a < N) (hb : b < N) (he : E a b) (b' : Int) (hb' : b' = b) :
    Calls Tryz.prog 138 #[.pointer (some ⟨pl, 0, none⟩), .int .i64 a, .int .i64 b'] w fun e w' => e = .returned (.int .i64 0) ∧ LM w' pl g N (delE E a b) key ∧ Fr [pl, g] w w' := by
 subst hb'
 have h1 := cut_w h a b
 have e1 : cutCode N E a b = 0 := by unfold cutCode; rw [if_pos ⟨inV_lt ha, inV_lt hb⟩]; simp [he]
 have e2 : cutE N E a b = delE E a b := by unfold cutE; rw [if_pos e1]; rfl
 rw [e1, e2] at h1
 exact h1
theorem link_ok' (h : LM w pl g N E key) {a b : Nat} (ha : a < N) (hb : b < N) (hne : a ≠ b) (hc : ¬ Conn E a b) (b' : Int) (hb' : b' = b) :
    Calls Tryz.prog 197 #[.pointer (some ⟨pl, 0, none⟩), .int .i64 a, .int .i64 b'] w fun e w' => e = .returned (.int .i64 0) ∧ LM w' pl g N (addE E a b) key ∧ Fr [pl, g] w w' := by
 subst hb'
 exact link_ok h a b ha hb hne hc
end
section
variable {w w' : World} {pf pl g ph mb S V n : Nat} {G : EMap} {T : Nat → Prop} {key : Nat → Int} {l : List Nat}
theorem mapG_put {s : Nat} {e : Nat × Nat × Int} {T' : Nat → Prop} {v : Value} (hg : G s = some e) (hv : v = edV e (decide (T' s))) (hT : ∀ t, t ≠ s → (T t ↔ T' t)) : updM (mapG G T) s (some v) = mapG G T' := by
 funext k
 by_cases hk : k = (s : Int)
 · subst hk; rw [updM_same, mapG_nat, hg, hv]; rfl
 {
 rw [updM_other hk]
 unfold mapG
 by_cases h0 : 0 ≤ k
 {
 have : k.toNat ≠ s := by omega
 simp only [hT _ this]
 }
 · simp only [h0, if_false]
 }
theorem wf_nat {s : Nat} (h : s ≤ 100000) : (Lit.int .i64 (s : Int)).wf = true := by
 show (decide ((-9223372036854775808 : Int) ≤ s) && decide ((s : Int) ≤ 9223372036854775807)) = true
 simp; omega
theorem loosen_w (h : FB w pf pl g ph mb S V G T key n) {m ma mz : Nat} {y : Int} (hg : G m = some (ma, mz, y)) (ht : T m) :
    Calls Tryz.prog 89 #[fptr pf, .int .i64 m] w fun e w' => e = .returned (.tuple #[]) ∧ FB w' pf pl g ph mb S V G (fun t => T t ∧ t ≠ m) key n ∧ Fr [pf, pl, g, mb] w w' := by
 have hms := h.gw.slot _ _ hg
 have hen := h.gw.ends _ _ _ _ hg
 have hS := h.leS
 have hV := h.leV
 have hlt := h.lt
 have hcT := cntT_drop hms ht
 have hcle := cntT_le S T
 have hne := And.intro h.ne1 (And.intro h.ne2 (And.intro h.ne3 (And.intro h.ne4 h.ne5)))
 have hl0 := h.edges.run_get (t := 123) (e := 128) (z := edZ) Tryz.underlying3 Tryz.underlying123 (by kernel_rfl) rfl (wf_nat (s := m) (by omega))
 rw [mapG_nat, hg] at hl0
 simp only [Option.map_some, Option.getD_some, ht, decide_true, edV] at hl0
 have e1 : TE S G T m (S + ma) := ⟨m, ma, mz, y, hg, ht, .inl ⟨rfl, .inl rfl⟩⟩
 have e2 : delE (TE S G T) m (S + ma) m (S + mz) := ⟨⟨m, ma, mz, y, hg, ht, .inl ⟨rfl, .inr rfl⟩⟩, by omega, by omega⟩
 have c1 := (h.hd.alloc (.cells #[.int .i64 ma, .int .i64 mz, .int .i64 y, .bool true] 128)).cell 1
 have c2 := (h.hd.alloc (.cells #[.int .i64 ma, .int .i64 mz, .int .i64 y, .bool true] 128)).cell 2
 have c4 := h.hd.cell 4
 simp only [List.getElem?_cons_zero, List.getElem?_cons_succ] at c1 c2 c4
 have hw1 : IntKind.i64.wrap ((S : Int) + ma) = (S : Int) + ma := IntWalk.i64_in _ (by omega)
 have hw2 : IntKind.i64.wrap ((S : Int) + mz) = (S : Int) + mz := IntWalk.i64_in _ (by omega)
 have hf0 : Fr [] w (w.alloc (.cells #[.int .i64 ma, .int .i64 mz, .int .i64 y, .bool true] 128)) := (Fr.refl _ _).alloc _
 have hb := Blk.new w [.int .i64 ma, .int .i64 mz, .int .i64 y, .bool true] 128
 have HC1 := Lib.hid (cut_ok (h.fr0 hf0.drew).lct (a := m) (b := S + ma) (by omega) (by omega) e1 ((S : Int) + ma) (by omega))
 have H := Lib.hid h
 have E2 := Lib.hid e2
 have HB := Lib.hid (And.intro hf0 hb)
 have HN := Lib.hid (And.intro hne hlt)
 clear h e1 e2 hf0 hb hne hlt
 have x0 := HB.out.2.cell 0
 have x1 := HB.out.2.cell 1
 simp only [List.getElem?_cons_zero, List.getElem?_cons_succ] at x0 x1
 go_enter Tryz.func89, Tryz.ntmps89
 go_wp2
 go_region_held3 (fun w' => w'.cell? ⟨pf, 1, none⟩ = some (.int .i64 S) ∧ w'.cell? ⟨pf, 2, none⟩ = some (fptr pl) ∧ w'.cell? ⟨w.heap.size, 0, none⟩ = some (.int .i64 ma))
   (first
     | go_keep
     | (have N := HN.out; exact ⟨hF3.cell (by simp_all) (by simp; omega), hF3.cell (by simp_all) (by simp; omega), hF3.cell (by simp_all) (by simp; omega)⟩))
   (first
     | (go_at_call 138; refine HC1.out.mono ?_; rintro e w3 ⟨rfl, hL3, hF3⟩))
 have hlt3 := HN.out.2
 have hpf3 : Blk w3 pf _ _ := hF3.blk ((Fr.refl [] _).drew.blk (HB.out.1.blk H.out.hd (by simp)) (by simp)) (by have N := HN.out; simp; omega)
 have hbx3 : Blk w3 w.heap.size _ _ := hF3.blk ((Fr.refl [] _).drew.blk HB.out.2 (by simp)) (by simp; omega)
 have hF3' : Fr [pl, g] w w3 := (HB.out.1.drew.mono (S' := [pl, g]) (by simp)).trans' hF3
 have HC2 := Lib.hid (cut_ok (show LM w3.drew pl g (S + V) (delE (TE S G T) m (S + ma)) key from LG.fr hL3 (Fr.refl [] _).drew (by simp) (by simp)) (a := m) (b := S + mz) (by omega) (by omega) E2.out ((S : Int) + mz) (by omega))
 have d1 := hpf3.cell 1
 have d2 := hpf3.cell 2
 have y1 := hbx3.cell 1
 simp only [List.getElem?_cons_zero, List.getElem?_cons_succ] at d1 d2 y1
 have HF3 := Lib.hid (And.intro hF3' (And.intro hpf3 hbx3))
 clear hF3' hpf3 hbx3 hF3 hL3 HC1 c1 c2 x0 x1
 go_wp2
 go_region_held3 (fun w' => w'.cell? ⟨pf, 1, none⟩ = some (.int .i64 S) ∧ w'.cell? ⟨pf, 2, none⟩ = some (fptr pl) ∧ w'.cell? ⟨w.heap.size, 1, none⟩ = some (.int .i64 mz))
   (first
     | go_keep
     | (have N := HN.out; exact ⟨hF4.cell (by simp_all) (by simp; omega), hF4.cell (by simp_all) (by simp; omega), hF4.cell (by simp_all) (by simp; omega)⟩))
   (first
     | (go_at_call 138; refine HC2.out.mono ?_; rintro e w4 ⟨rfl, hL4, hF4⟩))
 have hpf4 : Blk w4 pf _ _ := hF4.blk ((Fr.refl [] _).drew.blk HF3.out.2.1 (by simp)) (by have N := HN.out; simp; omega)
 have hbx4 : Blk w4 w.heap.size _ _ := hF4.blk ((Fr.refl [] _).drew.blk HF3.out.2.2 (by simp)) (by simp; omega)
 have hF4' : Fr [pl, g] w w4 := (HF3.out.1.drew).trans' hF4
 rw [te_del H.out.gw.slot hg] at hL4
 have y3 := hbx4.cell 3
 have z3 := hbx4.frozen 3
 simp only [List.getElem?_cons_zero, List.getElem?_cons_succ] at y3
 have hbx5 := hbx4.set 3 (.bool false)
 have hpf5 := hpf4.other ⟨w.heap.size, 3, none⟩ (.bool false) (by show pf ≠ w.heap.size; omega)
 have HL4 := Lib.hid (And.intro hL4 hF4')
 have HX5 := Lib.hid (And.intro hpf5 hbx5)
 clear hL4 hF4' hpf4 hbx4 hpf5 hbx5 hF4 HC2 d1 d2 y1
 go_wp2
 have HS5 := Lib.hid (show Fr [w.heap.size] w4 (w4.setCell ⟨w.heap.size, 3, none⟩ (.bool false)) from (Fr.refl _ _).setCell _ _ (.inl (by simp)))
 generalize w4.setCell ⟨w.heap.size, 3, none⟩ (.bool false) = w5 at *
 clear y3 z3
 have hI5 : IMap Tryz.prog 3 .i64 okA w5 mb (mapG G T) n := H.out.edges.same (by
   rw [HS5.out.keep mb (by have := HL4.out.2.size; omega) (by simp; omega), HL4.out.2.keep mb (by omega) (by have N := HN.out; simp; omega)])
 have f4 := HX5.out.1.cell 4
 have y0 := HX5.out.2.cell 0
 have y1 := HX5.out.2.cell 1
 have y2 := HX5.out.2.cell 2
 have y3 := HX5.out.2.cell 3
 simp only [List.set_cons_succ, List.set_cons_zero, List.getElem?_cons_zero, List.getElem?_cons_succ] at f4 y0 y1 y2 y3
 have HI5 := Lib.hid hI5; clear hI5
 refine region_one 6 (fun w' => IMap Tryz.prog 3 .i64 okA w' mb (mapG G (fun t => T t ∧ t ≠ m)) n ∧ Fr [mb] w5 w') (by kernel_rfl) (by kernel_rfl) (by kernel_rfl) ?_
 iterate 6 (refine gWalk_pre (by decide) (fun K hK => ?_); go_simp; refine hK _ ?_; clear hK K)
 refine gWalk_write rfl undef (fun w' hw' => ?_) ?_
 {
 obtain ⟨nq, rfl⟩ := hw'
 obtain ⟨w6, hrun, hI6, hF6⟩ := (HI5.out.same (w' := w5.drewN nq) rfl).put (t := 123) (e := 128) Tryz.underlying3 Tryz.underlying123 (by rw [H.out.cn]; unfold maxLen; have := cntT_le S (fun s => (G s).isSome = true); omega) (wf_nat (s := m) (by omega)) (v := .agg #[.int .i64 ma, .int .i64 mz, .int .i64 y, .bool false]) rfl
 rw [mapG_nat, hg, mapG_put (T' := fun t => T t ∧ t ≠ m) hg (by simp [edV]) (fun t ht => by simp [ht])] at hI6
 go_simp
 exact ⟨hI6, (((Fr.refl [mb] w5).drewN nq)).trans' hF6⟩
 }
 refine gWalk_nil ?_
 rintro w6 ⟨hI6, hF6⟩
 have hpf6 := hF6.blk HX5.out.1 (by have N := HN.out; simp; omega)
 rw [← hcT] at hpf6
 generalize hz : cntT S (fun t => T t ∧ t ≠ m) = z at *
 have f5 : w6.cell? ⟨pf, 5, none⟩ = some (.int .i64 ((z : Int) + 1)) := hpf6.cell 5
 have q5 := hpf6.frozen 5
 have hw5 : IntKind.i64.wrap ((z : Int) + 1 - 1) = (z : Int) := by rw [show (z : Int) + 1 - 1 = z by omega]; exact IntWalk.i64_in _ (by omega)
 have hpf7 := hpf6.set 5 (.int .i64 (z : Int))
 have HP7 := Lib.hid hpf7
 have HI6 := Lib.hid (And.intro hI6 hF6)
 have HZ := Lib.hid hz
 clear hpf6 hpf7 hI6 hF6 hz f4 y0 y1 y2 y3
 go_wp2
 go_end0
 have e7 : (z : Int) + 1 - 1 = z := by omega
 have hF7 : Fr [pf] w6 (w6.setCell ⟨pf, 5, none⟩ (.int .i64 (z : Int))) := (Fr.refl _ _).setCell _ _ (.inl (by simp))
 have N := HN.out
 have s4 := HL4.out.2.size
 have hF47 : Fr [w.heap.size, mb, pf] w4 (w6.setCell ⟨pf, 5, none⟩ (.int .i64 (z : Int))) :=
   ((HS5.out.mono (fun q hq => .inl (by simp at hq ⊢; exact .inl hq))).trans' (HI6.out.2.mono (fun q hq => .inl (by simp at hq ⊢; exact .inr (.inl hq))))).trans' (hF7.mono (fun q hq => .inl (by simp at hq ⊢; exact .inr (.inr hq))))
 try rw [e7]
 refine ⟨rfl, ⟨?_, LG.fr HL4.out.1 hF47 (by simp; omega) (by simp; omega), HI6.out.1.same (hF7.keep mb HI6.out.1.lt (by simp; omega)), H.out.gw, ⟨fun t a b x h1 h2 => H.out.keys.slot t a b x h1 h2.1, H.out.keys.vert⟩, H.out.cn, H.out.leS, H.out.leV, H.out.ne1, H.out.ne2, H.out.ne3, H.out.ne4, H.out.ne5⟩,
   (HL4.out.2.mono (fun q hq => .inl (by simp at hq ⊢; omega))).trans hF47 (fun q hq => by simp at hq ⊢; omega)⟩
 rw [HZ.out]
 exact HP7.out
theorem set_ok {w : World} {pl g N : Nat} {E : Nat → Nat → Prop} {key : Nat → Int} (h : LM w pl g N E key) {a : Nat} (ha : a < N) (k : Int) :
    Calls Tryz.prog 167 #[.pointer (some ⟨pl, 0, none⟩), .int .i64 a, .int .i64 k] w fun e w' => e = .returned (.int .i64 0) ∧ LM w' pl g N E (setKey N key a k) ∧ Fr [pl, g] w w' := by
 refine (set_w h a k).mono ?_
 rintro e w' ⟨rfl, h1, h2⟩
 exact ⟨by unfold setCode; rw [inV_lt ha]; rfl, h1, h2.mono (fun q hq => .inl (by simp at hq ⊢; exact .inr hq))⟩
theorem setKey_same {N a : Nat} (ha : a < N) (key : Nat → Int) (k : Int) : setKey N key a k a = k := by
 unfold setKey; rw [if_pos ⟨inV_lt ha, by simp⟩]
theorem setKey_other {N a v : Nat} (key : Nat → Int) (k : Int) (hv : v ≠ a) : setKey N key a k v = key v := by
 unfold setKey; rw [if_neg (by simp; omega)]
theorem fasten_w (h : FB w pf pl g ph mb S V G T key n) {m ma mz : Nat} {y : Int} (hg : G m = some (ma, mz, y)) (ht : ¬ T m) (hc : ¬ Cx G T ma mz) :
    Calls Tryz.prog 161 #[fptr pf, .int .i64 m] w fun e w' => e = .returned (.tuple #[]) ∧ FB w' pf pl g ph mb S V G (fun t => T t ∨ t = m) (setKey (S + V) key m y) n ∧ Fr [pf, pl, g, mb] w w' := by
 have hms := h.gw.slot _ _ hg
 have hen := h.gw.ends _ _ _ _ hg
 have hS := h.leS
 have hV := h.leV
 have hlt := h.lt
 have hcT := cntT_put hms ht
 have hcle := cntT_le S T
 have hne := And.intro h.ne1 (And.intro h.ne2 (And.intro h.ne3 (And.intro h.ne4 h.ne5)))
 have hl0 := h.edges.run_get (t := 123) (e := 128) (z := edZ) Tryz.underlying3 Tryz.underlying123 (by kernel_rfl) rfl (wf_nat (s := m) (by omega))
 rw [mapG_nat, hg] at hl0
 simp only [Option.map_some, Option.getD_some, ht, decide_false, edV] at hl0
 have hfr := h.frs
 have n1 : ¬ Conn (TE S G T) m (S + ma) := te_alone ht hms (by omega) hfr
 have n2 : ¬ Conn (TE S G T) m (S + mz) := te_alone ht hms (by omega) hfr
 have n3 : ¬ Conn (TE S G T) (S + ma) (S + mz) := fun e => hc ((te_iff h.gw.slot hfr).1 e)
 have e2 : Frs (addE (TE S G T) m (S + ma)) → ¬ Conn (addE (TE S G T) m (S + ma)) m (S + mz) := by {
 intro h' e
 rcases (conn_add hfr h' _ _).1 e with e | ⟨_, e⟩ | ⟨_, e⟩
 · exact n2 e
 · exact n3 e
 · exact n2 e
 }
 have c1 := (h.hd.alloc (.cells #[.int .i64 ma, .int .i64 mz, .int .i64 y, .bool false] 128)).cell 1
 have c2 := (h.hd.alloc (.cells #[.int .i64 ma, .int .i64 mz, .int .i64 y, .bool false] 128)).cell 2
 have c4 := h.hd.cell 4
 simp only [List.getElem?_cons_zero, List.getElem?_cons_succ] at c1 c2 c4
 have hw1 : IntKind.i64.wrap ((S : Int) + ma) = (S : Int) + ma := IntWalk.i64_in _ (by omega)
 have hw2 : IntKind.i64.wrap ((S : Int) + mz) = (S : Int) + mz := IntWalk.i64_in _ (by omega)
 have hf0 : Fr [] w (w.alloc (.cells #[.int .i64 ma, .int .i64 mz, .int .i64 y, .bool false] 128)) := (Fr.refl _ _).alloc _
 have hb := Blk.new w [.int .i64 ma, .int .i64 mz, .int .i64 y, .bool false] 128
 have HC0 := Lib.hid (set_ok (h.fr0 hf0.drew).lct (a := m) (by omega) y)
 have H := Lib.hid h
 have E1 := Lib.hid n1
 have E2 := Lib.hid e2
 have HB := Lib.hid (And.intro hf0 hb)
 have HN := Lib.hid (And.intro hne hlt)
 clear h e2 n1 n2 n3 hf0 hb hne hlt hfr hc
 have x2 := HB.out.2.cell 2
 simp only [List.getElem?_cons_zero, List.getElem?_cons_succ] at x2
 go_enter Tryz.func161, Tryz.ntmps161
 go_wp2
 go_region_held3 (fun w' => w'.cell? ⟨pf, 2, none⟩ = some (fptr pl) ∧ w'.cell? ⟨w.heap.size, 2, none⟩ = some (.int .i64 y))
   (first
     | go_keep
     | (have N := HN.out; exact ⟨hF2.cell (by simp_all) (by simp; omega), hF2.cell (by simp_all) (by simp; omega)⟩))
   (first
     | (go_at_call 167; refine HC0.out.mono ?_; rintro e w2 ⟨rfl, hL2, hF2⟩))
 have hlt3 := HN.out.2
 have hpf2 : Blk w2 pf _ _ := hF2.blk ((Fr.refl [] _).drew.blk (HB.out.1.blk H.out.hd (by simp)) (by simp)) (by have N := HN.out; simp; omega)
 have hbx2 : Blk w2 w.heap.size _ _ := hF2.blk ((Fr.refl [] _).drew.blk HB.out.2 (by simp)) (by simp; omega)
 have hF2' : Fr [pl, g] w w2 := (HB.out.1.drew.mono (S' := [pl, g]) (by simp)).trans' hF2
 have HC1 := Lib.hid (link_ok' (show LM w2.drew pl g (S + V) (TE S G T) (setKey (S + V) key m y) from LG.fr hL2 (Fr.refl [] _).drew (by simp) (by simp)) (a := m) (b := S + ma) (by omega) (by omega) (by omega) E1.out ((S : Int) + ma) (by omega))
 have d1 := hpf2.cell 1
 have d2 := hpf2.cell 2
 have y1 := hbx2.cell 0
 simp only [List.getElem?_cons_zero, List.getElem?_cons_succ] at d1 d2 y1
 have HF2 := Lib.hid (And.intro hF2' (And.intro hpf2 hbx2))
 clear hF2' hpf2 hbx2 hF2 hL2 HC0 c1 c2 x2
 go_wp2
 go_region_held3 (fun w' => w'.cell? ⟨pf, 1, none⟩ = some (.int .i64 S) ∧ w'.cell? ⟨pf, 2, none⟩ = some (fptr pl) ∧ w'.cell? ⟨w.heap.size, 0, none⟩ = some (.int .i64 ma))
   (first
     | go_keep
     | (have N := HN.out; exact ⟨hF3.cell (by simp_all) (by simp; omega), hF3.cell (by simp_all) (by simp; omega), hF3.cell (by simp_all) (by simp; omega)⟩))
   (first
     | (go_at_call 197; refine HC1.out.mono ?_; rintro e w3 ⟨rfl, hL3, hF3⟩))
 have hpf3 : Blk w3 pf _ _ := hF3.blk ((Fr.refl [] _).drew.blk HF2.out.2.1 (by simp)) (by have N := HN.out; simp; omega)
 have hbx3 : Blk w3 w.heap.size _ _ := hF3.blk ((Fr.refl [] _).drew.blk HF2.out.2.2 (by simp)) (by simp; omega)
 have hF3' : Fr [pl, g] w w3 := (HF2.out.1.drew).trans' hF3
 have hL3' : LM w3.drew pl g (S + V) (addE (TE S G T) m (S + ma)) (setKey (S + V) key m y) := LG.fr hL3 (Fr.refl [] _).drew (by simp) (by simp)
 have HC2 := Lib.hid (link_ok' hL3' (a := m) (b := S + mz) (by omega) (by omega) (by omega) (E2.out hL3'.frs) ((S : Int) + mz) (by omega))
 have d1 := hpf3.cell 1
 have d2 := hpf3.cell 2
 have y1 := hbx3.cell 1
 simp only [List.getElem?_cons_zero, List.getElem?_cons_succ] at d1 d2 y1
 have HF3 := Lib.hid (And.intro hF3' (And.intro hpf3 hbx3))
 clear hF3' hpf3 hbx3 hF3 hL3 hL3' HC1
 go_wp2
 go_region_held3 (fun w' => w'.cell? ⟨pf, 1, none⟩ = some (.int .i64 S) ∧ w'.cell? ⟨pf, 2, none⟩ = some (fptr pl) ∧ w'.cell? ⟨w.heap.size, 1, none⟩ = some (.int .i64 mz))
   (first
     | go_keep
     | (have N := HN.out; exact ⟨hF4.cell (by simp_all) (by simp; omega), hF4.cell (by simp_all) (by simp; omega), hF4.cell (by simp_all) (by simp; omega)⟩))
   (first
     | (go_at_call 197; refine HC2.out.mono ?_; rintro e w4 ⟨rfl, hL4, hF4⟩))
 have hpf4 : Blk w4 pf _ _ := hF4.blk ((Fr.refl [] _).drew.blk HF3.out.2.1 (by simp)) (by have N := HN.out; simp; omega)
 have hbx4 : Blk w4 w.heap.size _ _ := hF4.blk ((Fr.refl [] _).drew.blk HF3.out.2.2 (by simp)) (by simp; omega)
 have hF4' : Fr [pl, g] w w4 := (HF3.out.1.drew).trans' hF4
 rw [te_add hg] at hL4
 have y3 := hbx4.cell 3
 have z3 := hbx4.frozen 3
 simp only [List.getElem?_cons_zero, List.getElem?_cons_succ] at y3
 have hbx5 := hbx4.set 3 (.bool true)
 have hpf5 := hpf4.other ⟨w.heap.size, 3, none⟩ (.bool true) (by show pf ≠ w.heap.size; omega)
 have HL4 := Lib.hid (And.intro hL4 hF4')
 have HX5 := Lib.hid (And.intro hpf5 hbx5)
 clear hL4 hF4' hpf4 hbx4 hpf5 hbx5 hF4 HC2 d1 d2 y1
 go_wp2
 have HS5 := Lib.hid (show Fr [w.heap.size] w4 (w4.setCell ⟨w.heap.size, 3, none⟩ (.bool true)) from (Fr.refl _ _).setCell _ _ (.inl (by simp)))
 generalize w4.setCell ⟨w.heap.size, 3, none⟩ (.bool true) = w5 at *
 clear y3 z3
 have hI5 : IMap Tryz.prog 3 .i64 okA w5 mb (mapG G T) n := H.out.edges.same (by
   rw [HS5.out.keep mb (by have := HL4.out.2.size; omega) (by simp; omega), HL4.out.2.keep mb (by omega) (by have N := HN.out; simp; omega)])
 have f4 := HX5.out.1.cell 4
 have y0 := HX5.out.2.cell 0
 have y1 := HX5.out.2.cell 1
 have y2 := HX5.out.2.cell 2
 have y3 := HX5.out.2.cell 3
 simp only [List.set_cons_succ, List.set_cons_zero, List.getElem?_cons_zero, List.getElem?_cons_succ] at f4 y0 y1 y2 y3
 have HI5 := Lib.hid hI5; clear hI5
 refine region_one 6 (fun w' => IMap Tryz.prog 3 .i64 okA w' mb (mapG G (fun t => T t ∨ t = m)) n ∧ Fr [mb] w5 w') (by kernel_rfl) (by kernel_rfl) (by kernel_rfl) ?_
 iterate 6 (refine gWalk_pre (by decide) (fun K hK => ?_); go_simp; refine hK _ ?_; clear hK K)
 refine gWalk_write rfl undef (fun w' hw' => ?_) ?_
 {
 obtain ⟨nq, rfl⟩ := hw'
 obtain ⟨w6, hrun, hI6, hF6⟩ := (HI5.out.same (w' := w5.drewN nq) rfl).put (t := 123) (e := 128) Tryz.underlying3 Tryz.underlying123 (by rw [H.out.cn]; unfold maxLen; have := cntT_le S (fun s => (G s).isSome = true); omega) (wf_nat (s := m) (by omega)) (v := .agg #[.int .i64 ma, .int .i64 mz, .int .i64 y, .bool true]) rfl
 rw [mapG_nat, hg, mapG_put (T' := fun t => T t ∨ t = m) hg (by simp [edV]) (fun t ht => by simp [ht])] at hI6
 go_simp
 exact ⟨hI6, (((Fr.refl [mb] w5).drewN nq)).trans' hF6⟩
 }
 refine gWalk_nil ?_
 rintro w6 ⟨hI6, hF6⟩
 have hpf6 := hF6.blk HX5.out.1 (by have N := HN.out; simp; omega)
 generalize hz : cntT S T = z at *
 have f5 : w6.cell? ⟨pf, 5, none⟩ = some (.int .i64 (z : Int)) := hpf6.cell 5
 have q5 := hpf6.frozen 5
 have hw5 : IntKind.i64.wrap ((z : Int) + 1) = (z : Int) + 1 := IntWalk.i64_in _ (by omega)
 have hpf7 := hpf6.set 5 (.int .i64 ((z : Int) + 1))
 have HP7 := Lib.hid hpf7
 have HI6 := Lib.hid (And.intro hI6 hF6)
 have HZ := Lib.hid (And.intro hz hcT)
 clear hpf6 hpf7 hI6 hF6 hz hcT f4 y0 y1 y2 y3
 go_wp2
 go_end0
 have hF7 : Fr [pf] w6 (w6.setCell ⟨pf, 5, none⟩ (.int .i64 ((z : Int) + 1))) := (Fr.refl _ _).setCell _ _ (.inl (by simp))
 have N := HN.out
 have s4 := HL4.out.2.size
 have hF47 : Fr [w.heap.size, mb, pf] w4 (w6.setCell ⟨pf, 5, none⟩ (.int .i64 ((z : Int) + 1))) :=
   ((HS5.out.mono (fun q hq => .inl (by simp at hq ⊢; exact .inl hq))).trans' (HI6.out.2.mono (fun q hq => .inl (by simp at hq ⊢; exact .inr (.inl hq))))).trans' (hF7.mono (fun q hq => .inl (by simp at hq ⊢; exact .inr (.inr hq))))
 refine ⟨rfl, ⟨?_, LG.fr HL4.out.1 hF47 (by simp; omega) (by simp; omega), HI6.out.1.same (hF7.keep mb HI6.out.1.lt (by simp; omega)), H.out.gw, ⟨fun t a b x h1 h2 => ?_, fun v hv => ?_⟩, H.out.cn, H.out.leS, H.out.leV, H.out.ne1, H.out.ne2, H.out.ne3, H.out.ne4, H.out.ne5⟩,
   (HL4.out.2.mono (fun q hq => .inl (by simp at hq ⊢; omega))).trans hF47 (fun q hq => by simp at hq ⊢; omega)⟩
 {
 have e8 := HZ.out.2
 rw [e8]
 exact HP7.out
 }
 {
 rcases h2 with h2 | rfl
 {
 rw [setKey_other _ _ (by rintro rfl; exact ht h2)]
 exact H.out.keys.slot t a b x h1 h2
 }
 {
 rw [setKey_same (by omega)]
 rw [hg] at h1; simp only [Option.some.injEq, Prod.mk.injEq] at h1
 exact h1.2.2
 }
 }
 {
 rw [setKey_other _ _ (by omega)]
 exact H.out.keys.vert v hv
 }
end
def FAt (w : World) (pf S V : Nat) (G : EMap) (L : List Nat) : Prop :=
  ∃ pl g ph mb l key n, FB w pf pl g ph mb S V G (isTree G) key n ∧ HeapAt w ph S (qOf G) n l ∧ (∀ b ∈ l, b ≠ pf ∧ b ≠ pl ∧ b ≠ g ∧ b ≠ mb) ∧ L = pf :: pl :: g :: mb :: l
noncomputable def addCode (S V : Nat) (G : EMap) (slot a b : Int) : Int :=
  if inV S slot = true ∧ inV V a = true ∧ inV V b = true then (if a = b then 9 else if (G slot.toNat).isSome = true then 6 else 0) else 3
noncomputable def addG (S V : Nat) (G : EMap) (slot a b x : Int) : EMap := if addCode S V G slot a b = 0 then updG G slot.toNat (some (a.toNat, b.toNat, x)) else G
section
variable {w w' : World} {pf pl g ph mb S V n : Nat} {G : EMap} {T T' : Nat → Prop} {key : Nat → Int} {l L : List Nat}
theorem FAt.lt (h : FAt w pf S V G L) : ∀ b ∈ L, b < w.heap.size := by
 obtain ⟨pl, g, ph, mb, l, key, n, h1, h2, h3, rfl⟩ := h
 have := h1.lt
 intro b hb
 simp only [List.mem_cons] at hb
 rcases hb with rfl | rfl | rfl | rfl | hb
 · exact this.1
 · exact this.2.1
 · exact this.2.2.1
 · exact this.2.2.2
 · exact h2.lt b hb
theorem FAt.fr {X : List Nat} (h : FAt w pf S V G L) (hf : Fr X w w') (hx : ∀ b ∈ L, b ∉ X) : FAt w' pf S V G L := by
 obtain ⟨pl, g, ph, mb, l, key, n, h1, h2, h3, rfl⟩ := h
 exact ⟨pl, g, ph, mb, l, key, n, h1.fr hf (hx _ (by simp)) (hx _ (by simp)) (hx _ (by simp)) (hx _ (by simp)), h2.fr hf (fun b hb => hx b (by simp [hb])), h3, rfl⟩
theorem FB.congrT (h : FB w pf pl g ph mb S V G T key n) (hT : ∀ t, T t ↔ T' t) : FB w pf pl g ph mb S V G T' key n := by
 have : T = T' := funext fun t => propext (hT t)
 rw [← this]; exact h
theorem mapG_new {s : Nat} {e : Nat × Nat × Int} (ht : ¬ T s) : updM (mapG G T) s (some (edV e false)) = mapG (updG G s (some e)) T := by
 funext k
 by_cases hk : k = (s : Int)
 · subst hk; rw [updM_same, mapG_nat, updG_same]; simp [ht]
 {
 rw [updM_other hk]
 unfold mapG
 by_cases h0 : 0 ≤ k
 · rw [updG_other (by omega)]
 · simp only [h0, if_false]
 }
theorem qOf_put {s : Nat} {e : Nat × Nat × Int} : updQ (qOf G) s (some e.2.2) = qOf (updG G s (some e)) := by
 funext k
 by_cases hk : k = s
 · subst hk; rw [updQ_same]; simp [qOf, updG_same]
 · rw [updQ_other hk]; simp [qOf, updG_other hk]
theorem cnt_put {s : Nat} {e : Nat × Nat × Int} (hs : s < S) (h0 : G s = none) : cntT S (fun t => (G t).isSome = true) + 1 = cntT S (fun t => (updG G s (some e) t).isSome = true) :=
  cntT_one hs (by simp [updG_same]) (by simp [h0]) (fun x hx => by rw [updG_other hx])
theorem FB.new (h : FB w pf pl g ph mb S V G T key n) {s a b : Nat} {x : Int} (h0 : G s = none) (ht : ¬ T s) (hs : s < S) (ha : a < V) (hb : b < V) (hab : a ≠ b) (hx : -9223372036854775808 ≤ x ∧ x ≤ 9223372036854775807)
    {X : List Nat} (hf : Fr X w w') (h1 : pf ∉ X) (h2 : pl ∉ X) (h3 : g ∉ X) (hI : IMap Tryz.prog 3 .i64 okA w' mb (mapG (updG G s (some (a, b, x))) T) (n + 1)) :
    FB w' pf pl g ph mb S V (updG G s (some (a, b, x))) T key (n + 1) := by
 have e : TE S (updG G s (some (a, b, x))) T = TE S G T := te_congr (fun _ => Iff.rfl) (fun t ht' => by rw [updG_other]; rintro rfl; exact ht ht')
 refine ⟨hf.blk h.hd h1, ?_, hI, h.gw.put hs ha hb hab hx, ⟨fun t c d y h4 h5 => ?_, h.keys.vert⟩, ?_, h.leS, h.leV, h.ne1, h.ne2, h.ne3, h.ne4, h.ne5⟩
 · rw [e]; exact h.lct.fr hf h2 h3
 {
 rw [updG_other (by rintro rfl; exact ht h5)] at h4
 exact h.keys.slot t c d y h4 h5
 }
 · rw [h.cn, cnt_put hs h0]
end
section
variable {w w' : World} {pf pl g ph mb S V n : Nat} {G : EMap} {T T' : Nat → Prop} {key : Nat → Int} {l L : List Nat}
theorem fadd_bad (h : FB w pf pl g ph mb S V G T key n) (slot a b x : Int) (hn : ¬ (inV S slot = true ∧ inV V a = true ∧ inV V b = true)) :
    Calls Tryz.prog 114 #[fptr pf, .int .i64 slot, .int .i64 a, .int .i64 b, .int .i64 x] w fun e w' => e = .returned (.int .i64 3) ∧ w' = w := by
 have c1 := h.hd.cell 1
 simp only [List.getElem?_cons_zero, List.getElem?_cons_succ] at c1
 have HV := Lib.hid (fvalid_w h)
 by_cases s1 : 0 ≤ slot
 {
 by_cases s2 : slot < S
 {
 have s3 : decide (slot ≥ (S : Int)) = false := decide_eq_false (by omega)
 cases ha : inV V a with
 | false => {
 have HA := fhas_w h a
 rw [ha] at HA
 have HA := Lib.hid HA
 clear h hn
 go_enter Tryz.func114, Tryz.ntmps114
 go_wp2_with fail
 refine HV.out.mono ?_
 rintro _ w1 ⟨rfl, rfl⟩
 go_wp2_with fail
 refine HA.out.mono ?_
 rintro _ w1 ⟨rfl, rfl⟩
 go_wp2
 go_ret
 exact ⟨rfl, rfl⟩
 }
 | true => {
 have hb : inV V b = false := by {
 cases hb : inV V b with
 | false => rfl
 | true => exact absurd ⟨by simp [inV, s1, s2], ha, hb⟩ hn
 }
 have HA := fhas_w h a
 rw [ha] at HA
 have HA := Lib.hid HA
 have HB := fhas_w h b
 rw [hb] at HB
 have HB := Lib.hid HB
 clear h hn
 go_enter Tryz.func114, Tryz.ntmps114
 go_wp2_with fail
 refine HV.out.mono ?_
 rintro _ w1 ⟨rfl, rfl⟩
 go_wp2_with fail
 refine HA.out.mono ?_
 rintro _ w1 ⟨rfl, rfl⟩
 go_wp2_with fail
 refine HB.out.mono ?_
 rintro _ w1 ⟨rfl, rfl⟩
 go_wp2
 go_ret
 exact ⟨rfl, rfl⟩
 }
 }
 {
 have s3 : decide (slot ≥ (S : Int)) = true := decide_eq_true (by omega)
 have s4 : (S : Int) ≤ slot := by omega
 clear h hn
 go_enter Tryz.func114, Tryz.ntmps114
 go_wp2_with fail
 refine HV.out.mono ?_
 rintro _ w1 ⟨rfl, rfl⟩
 go_wp2
 go_ret
 exact ⟨rfl, rfl⟩
 }
 }
 {
 have s3 : slot < 0 := by omega
 clear h hn
 go_enter Tryz.func114, Tryz.ntmps114
 go_wp2_with fail
 refine HV.out.mono ?_
 rintro _ w1 ⟨rfl, rfl⟩
 go_wp2
 go_ret
 exact ⟨rfl, rfl⟩
 }
theorem fadd_no (h : FB w pf pl g ph mb S V G T key n) {s a b : Nat} (hs : s < S) (ha : a < V) (hb : b < V) (x : Int) (hn : a = b ∨ (a ≠ b ∧ (G s).isSome = true)) :
    Calls Tryz.prog 114 #[fptr pf, .int .i64 s, .int .i64 a, .int .i64 b, .int .i64 x] w fun e w' => e = .returned (.int .i64 (if a = b then 9 else 6)) ∧ Fr [] w w' := by
 have c1 := h.hd.cell 1
 have c4 := h.hd.cell 4
 simp only [List.getElem?_cons_zero, List.getElem?_cons_succ] at c1 c4
 have HV := Lib.hid (fvalid_w h)
 have HA := fhas_w h a
 rw [inV_lt ha] at HA
 have HA := Lib.hid HA
 have HB := fhas_w h b
 rw [inV_lt hb] at HB
 have HB := Lib.hid HB
 have s1 : (0 : Int) ≤ s := by omega
 have s2 : (s : Int) < S := by omega
 have s3 : decide (S ≤ s) = false := decide_eq_false (by omega)
 by_cases hab : a = b
 {
 rw [if_pos hab]
 subst hab
 clear h hn
 go_enter Tryz.func114, Tryz.ntmps114
 go_wp2_with fail
 refine HV.out.mono ?_
 rintro _ w1 ⟨rfl, rfl⟩
 go_wp2_with fail
 refine HA.out.mono ?_
 rintro _ w1 ⟨rfl, rfl⟩
 go_wp2_with fail
 refine HB.out.mono ?_
 rintro _ w1 ⟨rfl, rfl⟩
 go_wp2
 go_ret
 exact ⟨rfl, Fr.refl _ _⟩
 }
 {
 rw [if_neg hab]
 obtain ⟨_, hsome⟩ := hn.resolve_left hab
 have t1 : ((a : Int) == (b : Int)) = false := by simp; omega
 have hl := h.edges.run_ok (t := 123) (e := 128) (z := edZ) Tryz.underlying3 Tryz.underlying123 (by kernel_rfl) rfl (wf_nat (s := s) (by have := h.leS; omega))
 obtain ⟨⟨e1, e2, e3⟩, he⟩ := Option.isSome_iff_exists.1 hsome
 rw [mapG_nat, he] at hl
 simp only [Option.map_some, Option.getD_some, edV, Option.isSome_some] at hl
 generalize decide (T s) = tb at *
 clear h hn
 go_enter Tryz.func114, Tryz.ntmps114
 go_wp2_with fail
 refine HV.out.mono ?_
 rintro _ w1 ⟨rfl, rfl⟩
 go_wp2_with fail
 refine HA.out.mono ?_
 rintro _ w1 ⟨rfl, rfl⟩
 go_wp2_with fail
 refine HB.out.mono ?_
 rintro _ w1 ⟨rfl, rfl⟩
 go_wp2
 go_ret
 exact ⟨rfl, (Fr.refl _ _).alloc _⟩
 }
end
section
variable {w w' : World} {pf pl g ph mb S V n : Nat} {G : EMap} {T : Nat → Prop} {key : Nat → Int}
theorem FB.asked (h : FB w pf pl g ph mb S V G T key n) (hL : LM w' pl g (S + V) (TE S G T) key) (hF : Fr [g] w w') : FB w' pf pl g ph mb S V G T key n :=
  ⟨hF.blk h.hd (by have := h.ne2; simp; exact this), hL, h.edges.same (hF.keep mb h.edges.lt (by have := h.ne5; simp; exact fun e => this e.symm)), h.gw, h.keys, h.cn, h.leS, h.leV, h.ne1, h.ne2, h.ne3, h.ne4, h.ne5⟩
theorem te_new {s : Nat} (ht : ¬ T s) (e : Option (Nat × Nat × Int)) : TE S (updG G s e) T = TE S G T :=
  te_congr (fun _ => Iff.rfl) (fun t ht' => by rw [updG_other]; rintro rfl; exact ht ht')
theorem cx_upd {s a b : Nat} (ht : ¬ T s) (e : Option (Nat × Nat × Int)) : Cx (updG G s e) T a b ↔ Cx G T a b := by
 constructor
 {
 intro h
 exact h.mono' fun u f h1 h2 => ⟨h1, by rw [updG_other (by rintro rfl; exact ht h1)] at h2; exact h2⟩
 }
 {
 intro h
 exact h.mono' fun u f h1 h2 => ⟨h1, by rw [updG_other (by rintro rfl; exact ht h1)]; exact h2⟩
 }
end
def MinSays (n : Nat) (E : Nat → Nat → Prop) (key : Nat → Int) (a b r : Int) (ok : Bool) : Prop :=
  (ok = false ∧ r = 0 ∧ ¬ ConnI n E a b) ∨ (ok = true ∧ ∃ (v u : Nat) (p : List Nat) (m : Nat), a = v ∧ b = u ∧ v < n ∧ u < n ∧ IsPath E v u p ∧ (∀ x ∈ p, x < n) ∧ FirstOf key p m ∧ r = m)
theorem min_d {w : World} {pf g n : Nat} {E : Nat → Nat → Prop} {key : Nat → Int} {ed : Int} (h : LG w pf g n E key ed) (a b : Int) : Calls Tryz.prog 82 #[.pointer (some ⟨pf, 0, none⟩), .int .i64 a, .int .i64 b] w fun e w' => ∃ r ok, e = .returned (.tuple #[.int .i64 r, .bool ok]) ∧ MinSays n E key a b r ok ∧ LG w' pf g n E key ed ∧ Fr [g] w w' := by
 refine (min_w h a b).mono ?_
 rintro e w' ⟨⟨hn, rfl⟩ | ⟨v, u, p, m, h1, h2, h3, h4, h5, h6, h7, rfl⟩, hL, hF⟩
 · exact ⟨0, false, rfl, .inl ⟨rfl, rfl, hn⟩, hL, hF⟩
 · exact ⟨m, true, rfl, .inr ⟨rfl, v, u, p, m, h1, h2, h3, h4, h5, h6, h7, rfl⟩, hL, hF⟩
section
variable {w w' : World} {pf S V : Nat} {G : EMap} {L : List Nat}
theorem fadd_yes (h : FAt w pf S V G L) {s a b : Nat} (hs : s < S) (ha : a < V) (hb : b < V) (hab : a ≠ b) (h0 : G s = none) (x : Int) (hx : -9223372036854775808 ≤ x ∧ x ≤ 9223372036854775807) :
    Calls Tryz.prog 114 #[fptr pf, .int .i64 s, .int .i64 a, .int .i64 b, .int .i64 x] w fun e w' => e = .returned (.int .i64 0) ∧ ∃ L', FAt w' pf S V (updG G s (some (a, b, x))) L' ∧ Fr L w w' ∧ ∀ q ∈ L', q ∈ L ∨ w.heap.size ≤ q := by
  obtain ⟨pl, g, ph, mb, l, key, n, h1, hH, hD, rfl⟩ := h
  have ht : ¬ isTree G s := by rintro ⟨_, _, _, e, _⟩; rw [h0] at e; cases e
  have hlt := h1.lt
  have hllt := hH.lt
  have hS := h1.leS
  have hV := h1.leV
  have c1 := h1.hd.cell 1
  have c4 := h1.hd.cell 4
  have c3 := (h1.hd.alloc (.cells #[.int .i64 0, .int .i64 0, .int .i64 0, .bool false] 128)).cell 3
  simp only [List.getElem?_cons_zero, List.getElem?_cons_succ] at c1 c3 c4
  have HV := Lib.hid (fvalid_w h1)
  have HA := fhas_w h1 a
  rw [inV_lt ha] at HA
  have HA := Lib.hid HA
  have HB := fhas_w h1 b
  rw [inV_lt hb] at HB
  have HB := Lib.hid HB
  have s1 : (0 : Int) ≤ s := by omega
  have s2 : (s : Int) < S := by omega
  have s3 : decide (S ≤ s) = false := decide_eq_false (by omega)
  have t1 : ((a : Int) == (b : Int)) = false := by simp; omega
  have hl := h1.edges.run_ok (t := 123) (e := 128) (z := edZ) Tryz.underlying3 Tryz.underlying123 (by kernel_rfl) rfl (wf_nat (s := s) (by omega))
  rw [mapG_nat, h0] at hl
  simp only [Option.map_none, Option.getD_none, edZ, Option.isSome_none] at hl
  have hf0 : Fr [] w (w.alloc (.cells #[.int .i64 0, .int .i64 0, .int .i64 0, .bool false] 128)) := (Fr.refl _ _).alloc _
  have HP := Lib.hid (hpush_w (hH.fr hf0 (by simp)) hs (by simp [qOf, h0]) x)
  have H := Lib.hid h1
  have HH := Lib.hid (And.intro hD (And.intro hllt hlt))
  have HF0 := Lib.hid hf0
  clear h1 hH hD hllt hf0
  go_enter Tryz.func114, Tryz.ntmps114
  go_wp2_with fail
  refine HV.out.mono ?_
  rintro _ w ⟨rfl, rfl⟩
  go_wp2_with fail
  refine HA.out.mono ?_
  rintro _ w ⟨rfl, rfl⟩
  go_wp2_with fail
  refine HB.out.mono ?_
  rintro _ w ⟨rfl, rfl⟩
  go_wp2_with fail
  refine HP.out.mono ?_
  rintro _ w2 ⟨rfl, l', hH2, hF2, hN2⟩
  have hpf2 : Blk w2 pf _ _ := hF2.blk (HF0.out.blk H.out.hd (by simp)) (fun hm => (HH.out.1 _ hm).1 rfl)
  have hI2 : IMap Tryz.prog 3 .i64 okA w2 mb (mapG G (isTree G)) n := H.out.edges.same (by
    rw [hF2.keep mb (by have := HF0.out.size; omega) (fun hm => (HH.out.1 _ hm).2.2.2 rfl), HF0.out.keep mb (by omega) (by simp)])
  have d4 := hpf2.cell 4
  simp only [List.getElem?_cons_zero, List.getElem?_cons_succ] at d4
  have HF2 := Lib.hid (And.intro hH2 (And.intro hF2 (And.intro hN2 hpf2)))
  have HI2 := Lib.hid hI2
  clear hH2 hF2 hN2 hpf2 hI2 c1 c3 c4 hl HP
  go_wp2_with (refine wpList_imap_put rfl _ _ _ _ rfl HI2.out Tryz.underlying3 Tryz.underlying123 (by rw [H.out.cn]; unfold maxLen; have := cntT_le S (fun s => (G s).isSome = true); omega) rfl (s : Int) rfl (wf_nat (s := s) (by omega)) (.agg #[.int .i64 a, .int .i64 b, .int .i64 x, .bool false]) rfl rfl ?_; intro w3 hI3 hF3)
  rw [mapG_nat, h0] at hI3
  simp only [Option.map_none, Option.isSome_none, Bool.false_eq_true, if_false] at hI3
  have hI3' : IMap Tryz.prog 3 .i64 okA w3 mb (mapG (updG G s (some (a, b, x))) (isTree G)) (n + 1) := by rw [← mapG_new ht]; exact hI3
  have hF13 : Fr (mb :: l) w w3 := ((HF0.out.mono (S' := mb :: l) (by simp)).trans' (HF2.out.2.1.mono (fun q hq => .inl (by simp [hq])))).trans' (hF3.mono (fun q hq => .inl (by simp at hq; simp [hq])))
  have hx1 : pf ∉ mb :: l := by simp only [List.mem_cons, not_or]; exact ⟨H.out.ne3, fun hm => (HH.out.1 _ hm).1 rfl⟩
  have hx2 : pl ∉ mb :: l := by simp only [List.mem_cons, not_or]; exact ⟨H.out.ne4, fun hm => (HH.out.1 _ hm).2.1 rfl⟩
  have hx3 : g ∉ mb :: l := by simp only [List.mem_cons, not_or]; exact ⟨H.out.ne5, fun hm => (HH.out.1 _ hm).2.2.1 rfl⟩
  have hB3 := H.out.new h0 ht hs ha hb hab hx hF13 hx1 hx2 hx3 hI3'
  have hL3 : LM w3 pl g (S + V) (TE S G (isTree G)) key := H.out.lct.fr hF13 hx2 hx3
  have hH3 : HeapAt w3 ph S (qOf (updG G s (some (a, b, x)))) (n + 1) l' := by
    rw [← qOf_put (e := (a, b, x))]
    exact HF2.out.1.fr hF3 (fun q hq hm => by
      simp at hm; subst hm
      rcases HF2.out.2.2.1 _ hq with e | e
      · exact (HH.out.1 _ e).2.2.2 rfl
      · simp at e; omega)
  have e1 := hB3.hd.cell 1
  have e2 := hB3.hd.cell 2
  simp only [List.getElem?_cons_zero, List.getElem?_cons_succ] at e1 e2
  have hw1 : IntKind.i64.wrap ((S : Int) + a) = (S : Int) + a := IntWalk.i64_in _ (by omega)
  have hw2 : IntKind.i64.wrap ((S : Int) + b) = (S : Int) + b := IntWalk.i64_in _ (by omega)
  have HM := Lib.hid (min_d (show LG w3.drew pl g (S + V) (TE S G (isTree G)) key _ from LG.fr hL3 (Fr.refl [] _).drew (by simp) (by simp)) ((S : Int) + a) ((S : Int) + b))
  have H3 := Lib.hid (And.intro hB3 (And.intro hH3 hF13))
  clear hI3 hI3' hF3 hF13 hB3 hL3 hH3 d4
  have HN := Lib.hid (And.intro H.out.ne1 (And.intro H.out.ne2 hlt))
  go_region_held3 (fun w' => w'.cell? ⟨pf, 1, none⟩ = some (.int .i64 S) ∧ w'.cell? ⟨pf, 2, none⟩ = some (fptr pl))
    (first
      | go_keep
      | (have N := HN.out; exact ⟨hF4.cell (by simp_all) (by simp; omega), hF4.cell (by simp_all) (by simp; omega)⟩))
    (first
      | (go_at_call 82; refine HM.out.mono ?_; rintro e w4 ⟨r, ok, rfl, hsay, hL4, hF4⟩))
  have hB4 := H3.out.1.asked (show LM w4 pl g (S + V) (TE S (updG G s (some (a, b, x))) (isTree G)) key by rw [te_new ht]; exact hL4) (((Fr.refl [g] w3).drew).trans' hF4)
  have hlen4 := hF4.size
  have hH4 := H3.out.2.1.fr (((Fr.refl [g] w3).drew).trans' hF4) (fun q hq hm => by
    simp at hm; subst hm
    rcases HF2.out.2.2.1 _ hq with e | e
    · exact (HH.out.1 _ e).2.2.1 rfl
    · simp at e; omega)
  have hF04 : Fr (pf :: pl :: g :: mb :: l) w w4 := (H3.out.2.2.mono (S' := pf :: pl :: g :: mb :: l) (fun q hq => .inl (by simp at hq ⊢; grind))).trans' ((((Fr.refl [g] w3).drew).trans' hF4).mono (fun q hq => .inl (by simp at hq ⊢; grind)))
  have hdis : ∀ q ∈ l', q ≠ pf ∧ q ≠ pl ∧ q ≠ g ∧ q ≠ mb := by
    intro q hq
    rcases HF2.out.2.2.1 _ hq with e | e
    · exact HH.out.1 _ e
    · simp at e; omega
  have hnew : ∀ q ∈ pf :: pl :: g :: mb :: l', q ∈ pf :: pl :: g :: mb :: l ∨ w.heap.size ≤ q := by
    intro q hq
    simp only [List.mem_cons] at hq ⊢
    rcases hq with e | e | e | e | e
    · exact .inl (.inl e)
    · exact .inl (.inr (.inl e))
    · exact .inl (.inr (.inr (.inl e)))
    · exact .inl (.inr (.inr (.inr (.inl e))))
    · rcases HF2.out.2.2.1 _ e with e | e
      · exact .inl (.inr (.inr (.inr (.inr e))))
      · simp at e; exact .inr (by omega)
  have H4 := Lib.hid (And.intro hB4 (And.intro hH4 (And.intro hF04 (And.intro hdis hnew))))
  have HS := Lib.hid (And.intro hsay hL4)
  clear hB4 hH4 hF04 hdis hnew hsay hL4 hF4 HM e1 e2
  cases ok with
  | false =>
    have hc : ¬ Cx G (isTree G) a b := by
      rcases HS.out.1 with ⟨_, _, hn⟩ | ⟨e, _⟩
      · intro hc
        exact hn ⟨by simp [inV]; omega, by simp [inV]; omega, by
          rw [show ((S : Int) + a).toNat = S + a by omega, show ((S : Int) + b).toNat = S + b by omega]
          exact te_conn (LG.frs HS.out.2) hc⟩
      · cases e
    have HFa := Lib.hid (fasten_w H4.out.1 (updG_same _ _ _) ht (fun e => hc ((cx_upd ht _).1 e)))
    have HC := Lib.hid hc; clear hc
    go_wp2_with fail
    refine HFa.out.mono ?_
    rintro _ w5 ⟨rfl, hB5, hF5⟩
    have H5 := Lib.hid (And.intro hB5 hF5); clear hB5 hF5
    go_wp2
    go_ret
    exact ⟨rfl, _, ⟨pl, g, ph, mb, l', _, n + 1, H5.out.1.congrT (fun t => (add_new H.out.gw.slot h0 HC.out t).symm), H4.out.2.1.fr H5.out.2 (fun q hq hm => by have := H4.out.2.2.2.1 q hq; simp at hm; grind), H4.out.2.2.2.1, rfl⟩, H4.out.2.2.1.trans' (H5.out.2.mono (fun q hq => .inl (by simp at hq ⊢; grind))), H4.out.2.2.2.2⟩
  | true =>
    obtain ⟨m, ma, mz, y, hr, hms, hgm, htm, hcx, hcut⟩ : ∃ (m ma mz : Nat) (y : Int), r = m ∧ m < S ∧ G m = some (ma, mz, y) ∧ isTree G m ∧ Cx G (fun t => isTree G t ∧ (t = m ∨ Aft G m y t)) a b ∧ ¬ Cx G (fun t => isTree G t ∧ t ≠ m) a b := by
      rcases HS.out.1 with ⟨e, _⟩ | ⟨_, v, u, p, m, e1, e2, h3, h4, hp, hin, hf, hr⟩
      · cases e
      · obtain rfl : v = S + a := by omega
        obtain rfl : u = S + b := by omega
        obtain ⟨ma, mz, y, h5, h6, h7, h8⟩ := first_slot H.out.gw H.out.keys hp hab hf hin
        exact ⟨m, ma, mz, y, hr, h5, h6, h7, h8, te_cut H.out.frs (te_sub H.out.frs (fun _ h => h.1)) hp hf.1 h5⟩
    subst hr
    have hmne : m ≠ s := by rintro rfl; rw [h0] at hgm; cases hgm
    have hgm' : updG G s (some (a, b, x)) m = some (ma, mz, y) := by rw [updG_other hmne]; exact hgm
    have hl4 := H4.out.1.edges.run_get (t := 123) (e := 128) (z := edZ) Tryz.underlying3 Tryz.underlying123 (by kernel_rfl) rfl (wf_nat (s := m) (by omega))
    rw [mapG_nat, hgm'] at hl4
    simp only [Option.map_some, Option.getD_some, htm, decide_true, edV] at hl4
    have c4 := H4.out.1.hd.cell 4
    simp only [List.getElem?_cons_zero, List.getElem?_cons_succ] at c4
    have HG := Lib.hid (And.intro hgm (And.intro htm (And.intro hcx (And.intro hcut hgm'))))
    clear hgm htm hcx hcut hgm'
    have hf45 : Fr [] w4 (w4.alloc (.cells #[.int .i64 ma, .int .i64 mz, .int .i64 y, .bool true] 128)) := (Fr.refl _ _).alloc _
    have HF45 := Lib.hid hf45; clear hf45
    have HLo := Lib.hid (loosen_w (H4.out.1.fr0 HF45.out) HG.out.2.2.2.2 HG.out.2.1)
    by_cases hb : bef x s y m
    · have HB' := Lib.hid hb
      have late : ∀ t, isTree G t ↔ isTree (updG G s (some (a, b, x))) t := fun t => (add_late h0 (HG.out.2.2.1.mono fun t _ ht _ => by
        rcases ht.2 with rfl | ⟨c, d, z, h1, h2⟩
        · exact ⟨_, _, _, HG.out.1, HB'.out⟩
        · exact ⟨c, d, z, h1, bef_trans HB'.out h2⟩) t).symm
      have HE := Lib.hid (show ∃ L', FAt (w4.alloc (.cells #[.int .i64 ma, .int .i64 mz, .int .i64 y, .bool true] 128)) pf S V (updG G s (some (a, b, x))) L' ∧ Fr (pf :: pl :: g :: mb :: l) w (w4.alloc (.cells #[.int .i64 ma, .int .i64 mz, .int .i64 y, .bool true] 128)) ∧ ∀ q ∈ L', q ∈ pf :: pl :: g :: mb :: l ∨ w.heap.size ≤ q from
        ⟨_, ⟨pl, g, ph, mb, l', _, n + 1, (H4.out.1.fr0 HF45.out).congrT late, H4.out.2.1.fr HF45.out (by simp), H4.out.2.2.2.1, rfl⟩, H4.out.2.2.1.trans' (HF45.out.mono (by simp)), H4.out.2.2.2.2⟩)
      clear late HLo
      unfold bef at hb
      by_cases h1 : x < y
      · clear hb
        go_wp2_with fail
        go_ret
        exact ⟨rfl, HE.out⟩
      · have h2 : x = y := by omega
        have h3 : s < m := by omega
        subst h2
        clear hb h1
        go_wp2_with fail
        go_ret
        exact ⟨rfl, HE.out⟩
    · have hb' := bef_tri (show s ≠ m from hmne.symm) hb
      have HB' := Lib.hid hb'
      unfold bef at hb hb'
      have swp : ∀ t, (isTree G t ∧ t ≠ m) ∨ t = s ↔ isTree (updG G s (some (a, b, x))) t := fun t => (add_swap H.out.gw.slot h0 HG.out.1 HG.out.2.2.1 HG.out.2.2.2.1 HB'.out t).symm
      have HSw := Lib.hid swp
      have HNC := Lib.hid (show ¬ Cx (updG G s (some (a, b, x))) (fun t => isTree G t ∧ t ≠ m) a b from fun e => HG.out.2.2.2.1 ((cx_upd (fun h => ht h.1) _).1 e))
      have n1 : decide (x < y) = false := decide_eq_false (by omega)
      have n2 : ¬ (x < y) := by omega
      have hfa : Hid (∀ w5 : World, FB w5 pf pl g ph mb S V (updG G s (some (a, b, x))) (fun t => isTree G t ∧ t ≠ m) key (n + 1) → Calls Tryz.prog 161 #[fptr pf, .int .i64 s] w5 fun e w' => e = .returned (.tuple #[]) ∧ FB w' pf pl g ph mb S V (updG G s (some (a, b, x))) (fun t => (isTree G t ∧ t ≠ m) ∨ t = s) (setKey (S + V) key s x) (n + 1) ∧ Fr [pf, pl, g, mb] w5 w') :=
        Lib.hid (fun w5 hB5 => fasten_w hB5 (updG_same _ _ _) (fun h => ht h.1) HNC.out)
      have fin : Hid (∀ w5 w6 : World, Fr [pf, pl, g, mb] (w4.alloc (.cells #[.int .i64 ma, .int .i64 mz, .int .i64 y, .bool true] 128)) w5 → Fr [pf, pl, g, mb] w5 w6 → FB w6 pf pl g ph mb S V (updG G s (some (a, b, x))) (fun t => (isTree G t ∧ t ≠ m) ∨ t = s) (setKey (S + V) key s x) (n + 1) →
          ∃ L', FAt w6 pf S V (updG G s (some (a, b, x))) L' ∧ Fr (pf :: pl :: g :: mb :: l) w w6 ∧ ∀ q ∈ L', q ∈ pf :: pl :: g :: mb :: l ∨ w.heap.size ≤ q) := Lib.hid (fun w5 w6 f5 f6 hB6 => by
        have f46 : Fr [pf, pl, g, mb] w4 w6 := ((HF45.out.mono (by simp)).trans' f5).trans' f6
        exact ⟨_, ⟨pl, g, ph, mb, l', _, n + 1, hB6.congrT HSw.out, H4.out.2.1.fr f46 (fun q hq hm => by have := H4.out.2.2.2.1 q hq; simp at hm; grind), H4.out.2.2.2.1, rfl⟩, H4.out.2.2.1.trans' (f46.mono (fun q hq => .inl (by simp at hq ⊢; grind))), H4.out.2.2.2.2⟩)
      clear swp hb'
      by_cases e : x = y
      · have n3 : decide (s < m) = false := decide_eq_false (by omega)
        subst e
        clear hb
        go_wp2_with fail
        refine HLo.out.mono ?_
        rintro _ w5 ⟨rfl, hB5, hF5⟩
        have HF5 := Lib.hid hF5
        have HFa := Lib.hid (hfa.out _ hB5)
        clear hB5 hF5
        go_wp2_with fail
        refine HFa.out.mono ?_
        rintro _ w6 ⟨rfl, hB6, hF6⟩
        have HF6 := Lib.hid (fin.out w5 w6 HF5.out hF6 hB6)
        clear hB6 hF6
        go_wp2_with fail
        go_ret
        exact ⟨rfl, HF6.out⟩
      · have n3 : (x == y) = false := by simp [e]
        have n4 : (y == x) = false := by simp; omega
        clear hb
        go_wp2_with fail
        refine HLo.out.mono ?_
        rintro _ w5 ⟨rfl, hB5, hF5⟩
        have HF5 := Lib.hid hF5
        have HFa := Lib.hid (hfa.out _ hB5)
        clear hB5 hF5
        go_wp2_with fail
        refine HFa.out.mono ?_
        rintro _ w6 ⟨rfl, hB6, hF6⟩
        have HF6 := Lib.hid (fin.out w5 w6 HF5.out hF6 hB6)
        clear hB6 hF6
        go_wp2_with fail
        go_ret
        exact ⟨rfl, HF6.out⟩
end
noncomputable def connG (V : Nat) (G : EMap) (a b : Int) : Bool := inV V a && inV V b && decide (Cx G (fun _ => True) a.toNat b.toNat)
noncomputable def sizeG (V : Nat) (G : EMap) (a : Int) : Int := if inV V a then (cxs V G (fun _ => True) a.toNat : Int) else 0
theorem cx_tree {S V : Nat} {G : EMap} (h : GW S V G) (a b : Nat) : Cx G (isTree G) a b ↔ Cx G (fun _ => True) a b :=
  ⟨fun hc => hc.mono fun _ _ _ _ => trivial, fun hc => kru_all h.slot hc⟩
section
variable {w w' : World} {pf pl g ph mb S V n : Nat} {G : EMap} {key : Nat → Int}
theorem fconn_w (h : FB w pf pl g ph mb S V G (isTree G) key n) (a b : Int) :
    Calls Tryz.prog 40 #[fptr pf, .int .i64 a, .int .i64 b] w fun e w' => e = .returned (.bool (connG V G a b)) ∧ FB w' pf pl g ph mb S V G (isTree G) key n ∧ Fr [g] w w' := by
 have HH := Lib.hid (fun (w' : World) (h : FB w' pf pl g ph mb S V G (isTree G) key n) (v : Int) => fhas_w h v)
 have hS := h.leS
 have hV := h.leV
 have H := Lib.hid h
 cases ha : inV V a with
 | false => {
 have e : connG V G a b = false := by simp [connG, ha]
 rw [e]
 clear h e
 go_enter Tryz.func40, Tryz.ntmps40
 go_wp2_with fail
 refine region_cw (fun w' => FB w' pf pl g ph mb S V G (isTree G) key n ∧ Fr [g] w w') (by kernel_rfl) (by kernel_rfl) ⟨H.out.fr0 (Fr.refl [] w).drew, (Fr.refl [g] w).drew⟩ ?_
 iterate 2 (refine cw_pure (by kernel_rfl) (fun KK hK => ?_); go_simp; refine hK.out _ ?_; clear hK KK)
 refine cw_val (by kernel_rfl) (.bool false) (fun w' hw' => ?_) ?_
 {
 go_simp
 refine (HH.out _ hw'.1 a).mono ?_
 rintro _ w2 ⟨rfl, rfl⟩
 exact ⟨by rw [ha], hw'⟩
 }
 (refine cw_pure (by kernel_rfl) (fun KK hK => ?_); go_simp; refine hK.out _ ?_; clear hK KK)
 iterate 3 (refine cw_skip (by kernel_rfl) ?_; go_frame)
 iterate 2 (refine cw_pure (by kernel_rfl) (fun KK hK => ?_); go_simp; refine hK.out _ ?_; clear hK KK)
 iterate 18 (refine cw_skip (by kernel_rfl) ?_; go_frame)
 iterate 2 (refine cw_pure (by kernel_rfl) (fun KK hK => ?_); go_simp; refine hK.out _ ?_; clear hK KK)
 refine cw_nil ?_
 rintro w2 ⟨h1, h2⟩
 have H2 := Lib.hid (And.intro h1 h2); clear h1 h2
 go_wp2
 go_ret
 exact ⟨rfl, H2.out⟩
 }
 | true => {
 cases hb : inV V b with
 | false => {
 have e : connG V G a b = false := by simp [connG, ha, hb]
 rw [e]
 clear h e
 go_enter Tryz.func40, Tryz.ntmps40
 go_wp2_with fail
 refine region_cw (fun w' => FB w' pf pl g ph mb S V G (isTree G) key n ∧ Fr [g] w w') (by kernel_rfl) (by kernel_rfl) ⟨H.out.fr0 (Fr.refl [] w).drew, (Fr.refl [g] w).drew⟩ ?_
 iterate 2 (refine cw_pure (by kernel_rfl) (fun KK hK => ?_); go_simp; refine hK.out _ ?_; clear hK KK)
 refine cw_val (by kernel_rfl) (.bool true) (fun w' hw' => ?_) ?_
 {
 go_simp
 refine (HH.out _ hw'.1 a).mono ?_
 rintro _ w2 ⟨rfl, rfl⟩
 exact ⟨by rw [ha], hw'⟩
 }
 iterate 3 (refine cw_pure (by kernel_rfl) (fun KK hK => ?_); go_simp; refine hK.out _ ?_; clear hK KK)
 refine cw_val (by kernel_rfl) (.bool false) (fun w' hw' => ?_) ?_
 {
 go_simp
 refine (HH.out _ hw'.1 b).mono ?_
 rintro _ w2 ⟨rfl, rfl⟩
 exact ⟨by rw [hb], hw'⟩
 }
 iterate 2 (refine cw_pure (by kernel_rfl) (fun KK hK => ?_); go_simp; refine hK.out _ ?_; clear hK KK)
 iterate 18 (refine cw_skip (by kernel_rfl) ?_; go_frame)
 iterate 2 (refine cw_pure (by kernel_rfl) (fun KK hK => ?_); go_simp; refine hK.out _ ?_; clear hK KK)
 refine cw_nil ?_
 rintro w2 ⟨h1, h2⟩
 have H2 := Lib.hid (And.intro h1 h2); clear h1 h2
 go_wp2
 go_ret
 exact ⟨rfl, H2.out⟩
 }
 | true => {
 obtain ⟨a, rfl, ha'⟩ := inV_nat ha
 obtain ⟨b, rfl, hb'⟩ := inV_nat hb
 have hw1 : IntKind.i64.wrap ((S : Int) + a) = (S : Int) + a := IntWalk.i64_in _ (by omega)
 have hw2 : IntKind.i64.wrap ((S : Int) + b) = (S : Int) + b := IntWalk.i64_in _ (by omega)
 have e : connB (S + V) (TE S G (isTree G)) ((S : Int) + a) ((S : Int) + b) = connG V G a b := by {
 have e1 : connG V G a b = decide (Cx G (fun _ => True) a b) := by simp [connG, ha, hb]
 rw [e1]
 unfold connB
 refine decide_eq_decide.2 ?_
 rw [← cx_tree h.gw, ← te_iff h.gw.slot h.frs]
 unfold ConnI
 rw [show ((S : Int) + a).toNat = S + a by omega, show ((S : Int) + b).toNat = S + b by omega]
 exact ⟨fun h => h.2.2, fun h => ⟨by simp [inV]; omega, by simp [inV]; omega, h⟩⟩
 }
 have HC := Lib.hid (fun (w' : World) (h : FB w' pf pl g ph mb S V G (isTree G) key n ∧ Fr [g] w w') => (show Calls Tryz.prog 83 #[fptr pl, .int .i64 ((S : Int) + a), .int .i64 ((S : Int) + b)] w' fun e w'' => e = .returned (.bool (connG V G a b)) ∧ FB w'' pf pl g ph mb S V G (isTree G) key n ∧ Fr [g] w w'' by
   have hC := connected_d h.1.lct ((S : Int) + a) ((S : Int) + b)
   rw [e] at hC
   exact hC.mono fun e w'' ⟨h1, h2, h3⟩ => ⟨h1, h.1.asked h2 h3, h.2.trans' h3⟩))
 clear h e
 generalize connG V G a b = r at *
 go_enter Tryz.func40, Tryz.ntmps40
 go_wp2_with fail
 refine region_cw (fun w' => FB w' pf pl g ph mb S V G (isTree G) key n ∧ Fr [g] w w') (by kernel_rfl) (by kernel_rfl) ⟨H.out.fr0 (Fr.refl [] w).drew, (Fr.refl [g] w).drew⟩ ?_
 iterate 2 (refine cw_pure (by kernel_rfl) (fun KK hK => ?_); go_simp; refine hK.out _ ?_; clear hK KK)
 refine cw_val (by kernel_rfl) (.bool true) (fun w' hw' => ?_) ?_
 {
 go_simp
 refine (HH.out _ hw'.1 a).mono ?_
 rintro _ w2 ⟨rfl, rfl⟩
 exact ⟨by rw [ha], hw'⟩
 }
 iterate 3 (refine cw_pure (by kernel_rfl) (fun KK hK => ?_); go_simp; refine hK.out _ ?_; clear hK KK)
 refine cw_val (by kernel_rfl) (.bool true) (fun w' hw' => ?_) ?_
 {
 go_simp
 refine (HH.out _ hw'.1 b).mono ?_
 rintro _ w2 ⟨rfl, rfl⟩
 exact ⟨by rw [hb], hw'⟩
 }
 iterate 6 (refine cw_pure (by kernel_rfl) (fun KK hK => ?_); go_simp; refine hK.out _ ?_; clear hK KK)
 refine cw_val (by kernel_rfl) (fptr pl) (fun w' hw' => ?_) ?_
 {
 have c2 := hw'.1.hd.cell 2
 simp only [List.getElem?_cons_zero, List.getElem?_cons_succ] at c2
 go_simp
 }
 iterate 3 (refine cw_pure (by kernel_rfl) (fun KK hK => ?_); go_simp; refine hK.out _ ?_; clear hK KK)
 refine cw_val (by kernel_rfl) (.int .i64 S) (fun w' hw' => ?_) ?_
 {
 have c1 := hw'.1.hd.cell 1
 simp only [List.getElem?_cons_zero, List.getElem?_cons_succ] at c1
 go_simp
 }
 iterate 5 (refine cw_pure (by kernel_rfl) (fun KK hK => ?_); go_simp; refine hK.out _ ?_; clear hK KK)
 refine cw_val (by kernel_rfl) (.int .i64 S) (fun w' hw' => ?_) ?_
 {
 have c1 := hw'.1.hd.cell 1
 simp only [List.getElem?_cons_zero, List.getElem?_cons_succ] at c1
 go_simp
 }
 iterate 2 (refine cw_pure (by kernel_rfl) (fun KK hK => ?_); go_simp; refine hK.out _ ?_; clear hK KK)
 refine cw_val (by kernel_rfl) (.bool r) (fun w' hw' => ?_) ?_
 {
 go_simp
 exact HC.out _ hw'
 }
 iterate 2 (refine cw_pure (by kernel_rfl) (fun KK hK => ?_); go_simp; refine hK.out _ ?_; clear hK KK)
 refine cw_nil ?_
 rintro w2 ⟨h1, h2⟩
 have H2 := Lib.hid (And.intro h1 h2); clear h1 h2
 go_wp2
 go_ret
 exact ⟨rfl, H2.out⟩
 }
 }
theorem fsize_w (h : FB w pf pl g ph mb S V G (isTree G) key n) (a : Int) :
    Calls Tryz.prog 59 #[fptr pf, .int .i64 a] w fun e w' => e = .returned (.int .i64 (sizeG V G a)) ∧ FB w' pf pl g ph mb S V G (isTree G) key n ∧ Fr [g] w w' := by
 have c1 := h.hd.cell 1
 have c2 := h.hd.cell 2
 simp only [List.getElem?_cons_zero, List.getElem?_cons_succ] at c1 c2
 have HA := fhas_w h a
 have hS := h.leS
 have hV := h.leV
 cases ha : inV V a with
 | false => {
 rw [ha] at HA
 have e : sizeG V G a = 0 := by simp [sizeG, ha]
 rw [e]
 have HA := Lib.hid HA
 have H := Lib.hid h
 clear h e
 go_enter Tryz.func59, Tryz.ntmps59
 go_wp2_with fail
 refine HA.out.mono ?_
 rintro _ w1 ⟨rfl, rfl⟩
 go_wp2
 go_ret
 exact ⟨rfl, H.out, Fr.refl _ _⟩
 }
 | true => {
 rw [ha] at HA
 obtain ⟨a, rfl, ha'⟩ := inV_nat ha
 have hw1 : IntKind.i64.wrap ((S : Int) + a) = (S : Int) + a := IntWalk.i64_in _ (by omega)
 have e1 : sizeG V G a = (cxs V G (isTree G) a : Int) := by {
 have : cxs V G (isTree G) a = cxs V G (fun _ => True) a := cntT_congr fun v => cx_tree h.gw a v
 simp [sizeG, ha, this]
 }
 rw [e1]
 have he := csize_te h.gw h.frs ha'
 have hle := csize_le (S + V) (TE S G (isTree G)) (S + a)
 generalize hz : csize (S + V) (TE S G (isTree G)) (S + a) = z at *
 have HE := Lib.hid hz; clear hz
 generalize cxs V G (isTree G) a = y at *
 have HZ := Lib.hid (And.intro he hle)
 have hw2 : IntKind.i64.wrap ((z : Int) + 1) = 2 * (y : Int) := by rw [show (z : Int) + 1 = 2 * (y : Int) by omega]; exact IntWalk.i64_in _ (by omega)
 have hw3 : IntKind.i64.wrap (y : Int) = (y : Int) := IntWalk.i64_in _ (by omega)
 have HA := Lib.hid HA
 have H := Lib.hid h
 have HC := Lib.hid (fun (w' : World) (h : FB w' pf pl g ph mb S V G (isTree G) key n ∧ Fr [g] w w') => (show Calls Tryz.prog 116 #[fptr pl, .int .i64 ((S : Int) + a)] w' fun e w'' => e = .returned (.int .i64 z) ∧ FB w'' pf pl g ph mb S V G (isTree G) key n ∧ Fr [g] w w'' by
   have hC := size_w h.1.lct ((S : Int) + a)
   rw [if_pos (by simp [inV]; omega), show ((S : Int) + a).toNat = S + a by omega, HE.out] at hC
   exact hC.mono fun e w'' ⟨h1, h2, h3⟩ => ⟨h1, h.1.asked h2 h3, h.2.trans' h3⟩))
 clear h e1 he hle c1 c2
 go_enter Tryz.func59, Tryz.ntmps59
 go_wp2_with fail
 refine HA.out.mono ?_
 rintro _ w1 ⟨rfl, rfl⟩
 go_wp2_with fail
 refine region_cw (fun w' => FB w' pf pl g ph mb S V G (isTree G) key n ∧ Fr [g] w1 w') (by kernel_rfl) (by kernel_rfl) ⟨H.out.fr0 (Fr.refl [] w1).drew, (Fr.refl [g] w1).drew⟩ ?_
 iterate 4 (refine cw_pure (by kernel_rfl) (fun KK hK => ?_); go_simp; refine hK.out _ ?_; clear hK KK)
 refine cw_val (by kernel_rfl) (fptr pl) (fun w' hw' => ?_) ?_
 {
 have c2 := hw'.1.hd.cell 2
 simp only [List.getElem?_cons_zero, List.getElem?_cons_succ] at c2
 go_simp
 }
 iterate 3 (refine cw_pure (by kernel_rfl) (fun KK hK => ?_); go_simp; refine hK.out _ ?_; clear hK KK)
 refine cw_val (by kernel_rfl) (.int .i64 S) (fun w' hw' => ?_) ?_
 {
 have c1 := hw'.1.hd.cell 1
 simp only [List.getElem?_cons_zero, List.getElem?_cons_succ] at c1
 go_simp
 }
 iterate 2 (refine cw_pure (by kernel_rfl) (fun KK hK => ?_); go_simp; refine hK.out _ ?_; clear hK KK)
 refine cw_val (by kernel_rfl) (.int .i64 z) (fun w' hw' => ?_) ?_
 {
 go_simp
 exact HC.out _ hw'
 }
 iterate 3 (refine cw_pure (by kernel_rfl) (fun KK hK => ?_); go_simp; refine hK.out _ ?_; clear hK KK)
 refine cw_nil ?_
 rintro w2 ⟨h1, h2⟩
 have H2 := Lib.hid (And.intro h1 h2); clear h1 h2
 go_wp2
 go_ret
 exact ⟨rfl, H2.out⟩
 }
@[go_sem] theorem fld_exp (e1 e2 e3 : Int) (tb : Bool) (w : World) : (Instr.field 128 (.agg #[.int .i64 e1, .int .i64 e2, .int .i64 e3, .bool tb]) 2).run Tryz.prog w = .ok (.int .i64 e3) w := by kernel_rfl
@[go_sem] theorem fld_tree (e1 e2 e3 : Int) (tb : Bool) (w : World) : (Instr.field 128 (.agg #[.int .i64 e1, .int .i64 e2, .int .i64 e3, .bool tb]) 3).run Tryz.prog w = .ok (.bool tb) w := by kernel_rfl
noncomputable def untilB (V : Nat) (G : EMap) (a b : Int) : Bool := decide (a ≠ b) && connG V G a b
noncomputable def untilV (V : Nat) (G : EMap) (a b : Int) : Int := if untilB V G a b then untilI G a.toNat b.toNat else 0
theorem funtil_w (h : FB w pf pl g ph mb S V G (isTree G) key n) (a b : Int) :
    Calls Tryz.prog 39 #[fptr pf, .int .i64 a, .int .i64 b] w fun e w' => e = .returned (.tuple #[.int .i64 (untilV V G a b), .bool (untilB V G a b)]) ∧ FB w' pf pl g ph mb S V G (isTree G) key n ∧ Fr [g] w w' := by
 have HA := fhas_w h a
 have HB := fhas_w h b
 have hS := h.leS
 have hV := h.leV
 have H := Lib.hid h
 cases ha : inV V a with
 | false => {
 have e : untilB V G a b = false := by simp [untilB, connG, ha]
 have e' : untilV V G a b = 0 := by simp [untilV, e]
 rw [e, e']
 rw [ha] at HA
 have HA := Lib.hid HA
 clear h e e' HB
 go_enter Tryz.func39, Tryz.ntmps39
 go_wp2_with fail
 refine HA.out.mono ?_
 rintro _ w1 ⟨rfl, rfl⟩
 go_wp2
 go_ret2
 exact ⟨rfl, H.out, Fr.refl _ _⟩
 }
 | true => {
 rw [ha] at HA
 cases hb : inV V b with
 | false => {
 have e : untilB V G a b = false := by simp [untilB, connG, hb]
 have e' : untilV V G a b = 0 := by simp [untilV, e]
 rw [e, e']
 rw [hb] at HB
 have HA := Lib.hid HA
 have HB := Lib.hid HB
 clear h e e'
 go_enter Tryz.func39, Tryz.ntmps39
 go_wp2_with fail
 refine HA.out.mono ?_
 rintro _ w1 ⟨rfl, rfl⟩
 go_wp2_with fail
 refine HB.out.mono ?_
 rintro _ w1 ⟨rfl, rfl⟩
 go_wp2
 go_ret2
 exact ⟨rfl, H.out, Fr.refl _ _⟩
 }
 | true => {
 rw [hb] at HB
 have HA := Lib.hid HA
 have HB := Lib.hid HB
 obtain ⟨a, rfl, ha'⟩ := inV_nat ha
 obtain ⟨b, rfl, hb'⟩ := inV_nat hb
 by_cases hab : a = b
 {
 subst hab
 have e : untilB V G a a = false := by simp [untilB]
 have e' : untilV V G a a = 0 := by simp [untilV, e]
 rw [e, e']
 clear h e e'
 go_enter Tryz.func39, Tryz.ntmps39
 go_wp2_with fail
 refine HA.out.mono ?_
 rintro _ w1 ⟨rfl, rfl⟩
 go_wp2_with fail
 refine HB.out.mono ?_
 rintro _ w1 ⟨rfl, rfl⟩
 go_wp2
 go_ret2
 exact ⟨rfl, H.out, Fr.refl _ _⟩
 }
 {
 have t1 : ((a : Int) == (b : Int)) = false := by simp; omega
 have hw1 : IntKind.i64.wrap ((S : Int) + a) = (S : Int) + a := IntWalk.i64_in _ (by omega)
 have hw2 : IntKind.i64.wrap ((S : Int) + b) = (S : Int) + b := IntWalk.i64_in _ (by omega)
 have HN := Lib.hid (And.intro h.ne1 (And.intro h.ne2 h.lt))
 have HM := Lib.hid (min_d (show LG w.drew pl g (S + V) (TE S G (isTree G)) key _ from LG.fr h.lct (Fr.refl [] _).drew (by simp) (by simp)) ((S : Int) + a) ((S : Int) + b))
 have e1 := h.hd.cell 1
 have e2 := h.hd.cell 2
 simp only [List.getElem?_cons_zero, List.getElem?_cons_succ] at e1 e2
 clear h
 go_enter Tryz.func39, Tryz.ntmps39
 go_wp2_with fail
 refine HA.out.mono ?_
 rintro _ w1 ⟨rfl, rfl⟩
 go_wp2_with fail
 refine HB.out.mono ?_
 rintro _ w1 ⟨rfl, rfl⟩
 go_wp2
 go_region_held3 (fun w' => w'.cell? ⟨pf, 1, none⟩ = some (.int .i64 S) ∧ w'.cell? ⟨pf, 2, none⟩ = some (fptr pl))
   (first
     | go_keep
     | (have N := HN.out; exact ⟨hF4.cell (by simp_all) (by simp; omega), hF4.cell (by simp_all) (by simp; omega)⟩))
   (first
     | (go_at_call 82; refine HM.out.mono ?_; rintro e w4 ⟨r, ok, rfl, hsay, hL4, hF4⟩))
 have hB4 := H.out.asked hL4 (((Fr.refl [g] w1).drew).trans' hF4)
 have H4 := Lib.hid (And.intro hB4 (((Fr.refl [g] w1).drew).trans' hF4))
 have HS := Lib.hid (And.intro hsay hL4)
 clear hB4 hsay hL4 hF4 HM e1 e2
 cases ok with
 | false => {
 have e : untilB V G a b = false := by {
 rcases HS.out.1 with ⟨_, _, hn⟩ | ⟨e, _⟩
 {
 have hc : ¬ Cx G (fun _ => True) a b := by {
 intro hc
 exact hn ⟨by simp [inV]; omega, by simp [inV]; omega, by
   rw [show ((S : Int) + a).toNat = S + a by omega, show ((S : Int) + b).toNat = S + b by omega]
   exact te_conn H.out.frs ((cx_tree H.out.gw a b).2 hc)⟩
 }
 simp [untilB, connG, hc]
 }
 · cases e
 }
 have e' : untilV V G a b = 0 := by simp [untilV, e]
 have HE := Lib.hid (And.intro e e'); clear e e'
 go_wp2
 go_ret2
 exact ⟨by rw [HE.out.1, HE.out.2]; rfl, H4.out⟩
 }
 | true => {
 obtain ⟨m, ma, mz, y, hr, hms, hgm, htm, hu, hcx⟩ : ∃ (m ma mz : Nat) (y : Int), r = m ∧ m < S ∧ G m = some (ma, mz, y) ∧ isTree G m ∧ IsUntil G a b y ∧ Cx G (fun _ => True) a b := by {
 rcases HS.out.1 with ⟨e, _⟩ | ⟨_, v, u, p, m, e1, e2, h3, h4, hp, hin, hf, hr⟩
 · cases e
 {
 obtain rfl : v = S + a := by omega
 obtain rfl : u = S + b := by omega
 obtain ⟨ma, mz, y, h5, h6, h7, h8⟩ := first_slot H.out.gw H.out.keys hp hab hf hin
 exact ⟨m, ma, mz, y, hr, h5, h6, h7, until_first H.out.gw.slot h6 h8 (te_cut H.out.frs (te_sub H.out.frs (fun _ h => h.1)) hp hf.1 h5), h8.mono fun _ _ _ _ => trivial⟩
 }
 }
 subst hr
 have e : untilB V G a b = true := by simp [untilB, connG, ha, hb, hcx]; omega
 have e' : untilV V G a b = y := by rw [untilV, if_pos e, Int.toNat_natCast, Int.toNat_natCast]; exact untilI_eq hu
 have HE := Lib.hid (And.intro e e')
 have hl4 := H4.out.1.edges.run_get (t := 123) (e := 128) (z := edZ) Tryz.underlying3 Tryz.underlying123 (by kernel_rfl) rfl (wf_nat (s := m) (by omega))
 rw [mapG_nat, hgm] at hl4
 simp only [Option.map_some, Option.getD_some, htm, decide_true, edV] at hl4
 have c4 := H4.out.1.hd.cell 4
 simp only [List.getElem?_cons_zero, List.getElem?_cons_succ] at c4
 clear e e' hu hcx htm hgm
 go_wp2
 go_ret2
 exact ⟨by rw [HE.out.1, HE.out.2]; rfl, H4.out⟩
 }
 }
 }
 }
end
section
variable {w w' : World} {pf pl g ph mb S V n : Nat} {G : EMap} {T T' : Nat → Prop} {key : Nat → Int} {l L : List Nat}
theorem mapG_drop {m : Nat} (hT : ∀ t, t ≠ m → (T t ↔ T' t)) : updM (mapG G T) m none = mapG (updG G m none) T' := by
 funext k
 by_cases hk : k = (m : Int)
 · subst hk; rw [updM_same, mapG_nat, updG_same]; rfl
 {
 rw [updM_other hk]
 unfold mapG
 by_cases h0 : 0 ≤ k
 {
 have : k.toNat ≠ m := by omega
 rw [updG_other this]
 simp only [hT _ this]
 }
 · simp only [h0, if_false]
 }
theorem qOf_drop {m : Nat} : updQ (qOf G) m none = qOf (updG G m none) := by
 funext k
 by_cases hk : k = m
 · subst hk; rw [updQ_same]; simp [qOf, updG_same]
 · rw [updQ_other hk]; simp [qOf, updG_other hk]
theorem FB.gone (h : FB w pf pl g ph mb S V G T key n) {m : Nat} {e : Nat × Nat × Int} (hm : G m = some e) (ht : ¬ T m) {X : List Nat} (hf : Fr X w w') (h1 : pf ∉ X) (h2 : pl ∉ X) (h3 : g ∉ X) (hI : IMap Tryz.prog 3 .i64 okA w' mb (mapG (updG G m none) T) (n - 1)) :
    FB w' pf pl g ph mb S V (updG G m none) T key (n - 1) := by
 have hms := h.gw.slot _ _ hm
 have e' : TE S (updG G m none) T = TE S G T := te_congr (fun _ => Iff.rfl) (fun t ht' => by rw [updG_other]; rintro rfl; exact ht ht')
 have hc : cntT S (fun s => (updG G m none s).isSome = true) + 1 = cntT S (fun s => (G s).isSome = true) := cntT_one hms (by simp [hm]) (by simp [updG_same]) (fun x hx => by rw [updG_other hx])
 refine ⟨hf.blk h.hd h1, ?_, hI, h.gw.del m, ⟨fun t c d y h4 h5 => ?_, h.keys.vert⟩, ?_, h.leS, h.leV, h.ne1, h.ne2, h.ne3, h.ne4, h.ne5⟩
 · rw [e']; exact h.lct.fr hf h2 h3
 {
 rw [updG_other (by rintro rfl; exact ht h5)] at h4
 exact h.keys.slot t c d y h4 h5
 }
 · rw [h.cn, ← hc, Nat.add_sub_cancel]
theorem fexp_w (h : FAt w pf S V G L) : Calls Tryz.prog 45 #[fptr pf] w fun e w' => e = .returned (.tuple #[.int .i64 ((fstG G).getD 0 : Nat), .bool (fstG G).isSome]) ∧ ∃ L', FAt w' pf S V (popG G) L' ∧ Fr L w w' ∧ ∀ q ∈ L', q ∈ L ∨ w.heap.size ≤ q := by
  obtain ⟨pl, g, ph, mb, l, key, n, h1, hH, hD, rfl⟩ := h
  have hlt := h1.lt
  have hllt := hH.lt
  have hS := h1.leS
  have hV := h1.leV
  have c3 := h1.hd.cell 3
  simp only [List.getElem?_cons_zero, List.getElem?_cons_succ] at c3
  have HV := Lib.hid (fvalid_w h1)
  have HP := Lib.hid (pop_w hH)
  have H := Lib.hid h1
  have HH := Lib.hid (And.intro hD (And.intro hllt (And.intro hlt hH)))
  clear h1 hH hD hllt
  go_enter Tryz.func45, Tryz.ntmps45
  go_wp2_with fail
  refine HV.out.mono ?_
  rintro _ w ⟨rfl, rfl⟩
  go_wp2_with fail
  refine HP.out.mono ?_
  rintro _ w2 (⟨hn, rfl, hF2⟩ | ⟨hn, i, k, hq, hmin, rfl, l', hH2, hF2, hN2⟩)
  · have hz : ∀ s, G s = none := by
      intro s
      cases hs : G s with
      | none => rfl
      | some e =>
        have := H.out.cn
        exact absurd (show (G s).isSome = true by simp [hs]) (cnt_zero (S := S) (P := fun s => (G s).isSome = true) (by omega) s (H.out.gw.slot s e hs))
    have hfst := fstG_none hz
    have hpop : popG G = G := by unfold popG; rw [hfst]
    have HE := Lib.hid (And.intro hfst (And.intro hpop hF2)); clear hz hfst hpop hF2
    go_wp2
    go_ret2
    refine ⟨by rw [HE.out.1]; rfl, _, ⟨pl, g, ph, mb, l, key, n, ?_, ?_, HH.out.1, rfl⟩, (HE.out.2.2.mono (by simp)).alloc _, fun q hq => .inl hq⟩
    · rw [HE.out.2.1]; exact H.out.fr0 (HE.out.2.2.alloc _)
    · rw [HE.out.2.1]; exact HH.out.2.2.2.fr (HE.out.2.2.alloc _) (by simp)
  · obtain ⟨ma, mz, hg⟩ : ∃ ma mz, G i = some (ma, mz, k) := by
      unfold qOf at hq
      cases hs : G i with
      | none => rw [hs] at hq; cases hq
      | some e => rw [hs] at hq; simp at hq; subst hq; exact ⟨e.1, e.2.1, rfl⟩
    have hall : ∀ t a b z, G t = some (a, b, z) → ¬ bef z t k i := fun t a b z ht hb => hmin t z (by simp [qOf, ht]) hb
    have hfst := fstG_eq (m := i) ⟨ma, mz, k, hg, hall⟩
    have hpop : popG G = updG G i none := by unfold popG; rw [hfst]
    have hdel := del_first hg hall
    have his := H.out.gw.slot _ _ hg
    have hq4 := HH.out.1
    have hx1 : pf ∉ l := fun hm => (hq4 _ hm).1 rfl
    have hx2 : pl ∉ l := fun hm => (hq4 _ hm).2.1 rfl
    have hx3 : g ∉ l := fun hm => (hq4 _ hm).2.2.1 rfl
    have hx4 : mb ∉ l := fun hm => (hq4 _ hm).2.2.2 rfl
    have hF3 : Fr l w (w2.alloc (.cells #[.int .i64 i, .int .i64 k] 136)) := hF2.alloc _
    have hB3 := H.out.fr hF3 hx1 hx2 hx3 hx4
    have hH3 := hH2.fr ((Fr.refl [] w2).alloc (.cells #[.int .i64 i, .int .i64 k] 136)) (by simp)
    have hbx := Blk.new w2 [.int .i64 i, .int .i64 k] 136
    have hsz := hF2.size
    rw [qOf_drop] at hH3
    have c4 := hB3.hd.cell 4
    have x0 := hbx.cell 0
    simp only [List.getElem?_cons_zero, List.getElem?_cons_succ] at c4 x0
    have hl0 := hB3.edges.run_get (t := 123) (e := 128) (z := edZ) Tryz.underlying3 Tryz.underlying123 (by kernel_rfl) rfl (wf_nat (s := i) (by omega))
    rw [mapG_nat, hg] at hl0
    have fin : Hid (∀ (T : Nat → Prop) (w4 w5 : World), (∀ t, T t ↔ isTree (updG G i none) t) → FB w4 pf pl g ph mb S V G T key n → Fr [pf, pl, g, mb] (w2.alloc (.cells #[.int .i64 i, .int .i64 k] 136)) w4 → Fr [mb] w4 w5 → IMap Tryz.prog 3 .i64 okA w5 mb (mapG (updG G i none) T) (n - 1) →
        ∃ L', FAt w5 pf S V (popG G) L' ∧ Fr (pf :: pl :: g :: mb :: l) w w5 ∧ ∀ q ∈ L', q ∈ pf :: pl :: g :: mb :: l ∨ w.heap.size ≤ q) := Lib.hid (fun T w4 w5 hT hB4 hF4 hF5 hI => by
      have hn : ¬ T i := fun h => by obtain ⟨_, _, _, e, _⟩ := (hT i).1 h; rw [updG_same] at e; cases e
      have hB5 := (hB4.gone hg hn hF5 (by simp; exact hB4.ne3) (by simp; exact hB4.ne4) (by simp; exact hB4.ne5) hI).congrT hT
      have hF35 : Fr [pf, pl, g, mb] (w2.alloc (.cells #[.int .i64 i, .int .i64 k] 136)) w5 := hF4.trans' (hF5.mono (fun q hq => .inl (by simp at hq ⊢; exact .inr (.inr (.inr hq)))))
      have hd : ∀ q ∈ l', q ≠ pf ∧ q ≠ pl ∧ q ≠ g ∧ q ≠ mb := by
        intro q hq
        rcases hN2 _ hq with e | e
        · exact hq4 _ e
        · have := HH.out.2.2.1; omega
      rw [hpop]
      refine ⟨_, ⟨pl, g, ph, mb, l', key, n - 1, hB5, hH3.fr hF35 (fun q hq hm => by have := hd q hq; simp at hm; omega), hd, rfl⟩, (hF3.mono (fun q hq => .inl (by simp [hq]))).trans' (hF35.mono (fun q hq => .inl (by simp at hq ⊢; omega))), fun q hq => ?_⟩
      simp only [List.mem_cons] at hq ⊢
      rcases hq with e | e | e | e | e
      · exact .inl (.inl e)
      · exact .inl (.inr (.inl e))
      · exact .inl (.inr (.inr (.inl e)))
      · exact .inl (.inr (.inr (.inr (.inl e))))
      · exact (hN2 _ e).imp (fun e => .inr (.inr (.inr (.inr e)))) id)
    have del : Hid (∀ (T : Nat → Prop) (w4 : World), FB w4 pf pl g ph mb S V G T key n → ∃ w5, (Builtin.delete_ #[123, 3] 0 #[.map (some mb), .int .i64 i]).run Tryz.prog w4 = .ok (.tuple #[]) w5 ∧ IMap Tryz.prog 3 .i64 okA w5 mb (mapG (updG G i none) T) (n - 1) ∧ Fr [mb] w4 w5) := Lib.hid (fun T w4 hB4 => by
      obtain ⟨w5, hr, hI, hF⟩ := hB4.edges.del (t := 123) (e := 128) Tryz.underlying3 Tryz.underlying123 (wf_nat (s := i) (by omega)) 0
      rw [mapG_nat, hg, mapG_drop (fun _ _ => Iff.rfl)] at hI
      exact ⟨w5, hr, hI, hF⟩)
    have HE := Lib.hid (And.intro hfst (And.intro hdel (And.intro hB3 (And.intro hbx hsz))))
    have HF3 := Lib.hid hF3
    have HH3 := Lib.hid hH3
    have HG := Lib.hid hg
    have HLo := Lib.hid (fun (w' : World) (h : FB w' pf pl g ph mb S V G (isTree G) key n) (ht : isTree G i) => loosen_w h hg ht)
    clear hfst hpop hdel hB3 hbx hF3 hH3 hH2 hF2 hN2 hq hmin hall hx1 hx2 hx3 hx4 hq4 c3 hg
    by_cases ht : isTree G i
    · have HT := Lib.hid ht; clear ht
      have HL := Lib.hid (fun (nq : Nat) => (show (Instr.lookup 123 (.map (some mb)) (.int .i64 i) false).run Tryz.prog ((w2.alloc (.cells #[.int .i64 i, .int .i64 k] 136)).drewN nq) = .ok (.agg #[.int .i64 ma, .int .i64 mz, .int .i64 k, .bool true]) ((w2.alloc (.cells #[.int .i64 i, .int .i64 k] 136)).drewN nq) by
        have := (HE.out.2.2.1.fr0 ((Fr.refl [] _).drewN nq)).edges.run_get (t := 123) (e := 128) (z := edZ) Tryz.underlying3 Tryz.underlying123 (by kernel_rfl) rfl (wf_nat (s := i) (by omega))
        rw [mapG_nat, HG.out] at this
        have ht := HT.out
        simpa only [Option.map_some, Option.getD_some, ht, decide_true, decide_false, edV] using this))
      clear hl0
      go_wp2_with fail
      refine region_cw (fun w' => ∃ nq, w' = (w2.alloc (.cells #[.int .i64 i, .int .i64 k] 136)).drewN nq) (by kernel_rfl) (by kernel_rfl) ⟨1, rfl⟩ ?_
      iterate 3 (refine cw_pure (by kernel_rfl) (fun KK hK => ?_); go_simp; refine hK.out _ ?_; clear hK KK)
      refine cw_val (by kernel_rfl) (.map (some mb)) (fun w' hw' => ?_) ?_
      · obtain ⟨nq, rfl⟩ := hw'
        go_simp
      iterate 1 (refine cw_pure (by kernel_rfl) (fun KK hK => ?_); go_simp; refine hK.out _ ?_; clear hK KK)
      refine cw_val (by kernel_rfl) (.int .i64 i) (fun w' hw' => ?_) ?_
      · obtain ⟨nq, rfl⟩ := hw'
        go_simp
      refine cw_val (by kernel_rfl) (.agg #[.int .i64 ma, .int .i64 mz, .int .i64 k, .bool true]) (fun w' hw' => ?_) ?_
      · obtain ⟨nq, rfl⟩ := hw'
        have hl := HL.out nq
        go_simp
      iterate 1 (refine cw_pure (by kernel_rfl) (fun KK hK => ?_); go_simp; refine hK.out _ ?_; clear hK KK)
      refine cw_nil ?_
      rintro w4 ⟨nq, rfl⟩
      go_wp2_with fail
      refine (HLo.out _ (HE.out.2.2.1.fr0 ((Fr.refl [] _).drewN nq)) HT.out).mono ?_
      rintro _ w4 ⟨rfl, hB4, hF4'⟩
      have hF4 : Fr [pf, pl, g, mb] (w2.alloc (.cells #[.int .i64 i, .int .i64 k] 136)) w4 := ((Fr.refl _ _).drewN nq).trans' hF4'
      have hpf4 := hB4.hd
      have hbx4 := hF4.blk HE.out.2.2.2.1 (by have N := HH.out.2.2.1; have hsz := HE.out.2.2.2.2; simp; omega)
      clear hF4' c4 x0
      go_wp2_with fail
      have HX := Lib.hid (And.intro hB4 (And.intro hF4 (And.intro hpf4 hbx4)))
      have x0 := hbx4.cell 0
      have c4 := hpf4.cell 4
      simp only [List.getElem?_cons_zero, List.getElem?_cons_succ] at x0 c4
      clear hB4 hF4 hpf4 hbx4
      refine region_one 6 (fun w' => IMap Tryz.prog 3 .i64 okA w' mb (mapG (updG G i none) (fun t => isTree G t ∧ t ≠ i)) (n - 1) ∧ Fr [mb] w4 w') (by kernel_rfl) (by kernel_rfl) (by kernel_rfl) ?_
      iterate 6 (refine gWalk_pre (by decide) (fun K hK => ?_); go_simp; refine hK _ ?_; clear hK K)
      refine gWalk_write rfl (.tuple #[]) (fun w' hw' => ?_) ?_
      · obtain ⟨nq, rfl⟩ := hw'
        obtain ⟨w6, hrun, hI6, hF6⟩ := del.out _ _ (HX.out.1.fr0 ((Fr.refl [] _).drewN nq))
        go_simp
        first
          | exact ⟨hI6, (((Fr.refl [mb] w4).drewN nq)).trans' hF6⟩
          | exact (((Fr.refl [mb] w4).drewN nq)).trans' hF6
      refine gWalk_nil ?_
      rintro w6 ⟨hI6, hF6⟩
      have N := HH.out.2.2.1
      have hsz := HE.out.2.2.2.2
      have hbx6 := hF6.blk HX.out.2.2.2 (by simp; omega)
      have x0 := hbx6.cell 0
      simp only [List.getElem?_cons_zero] at x0
      have HI6 := Lib.hid (And.intro hI6 hF6)
      clear hI6 hF6 hbx6 c4
      go_wp2
      go_ret2
      exact ⟨by rw [HE.out.1]; rfl, fin.out _ _ _ (fun t => (HE.out.2.1 t).symm) HX.out.1 HX.out.2.1 HI6.out.2 HI6.out.1⟩
    · have HT := Lib.hid ht; clear ht
      have HL := Lib.hid (fun (nq : Nat) => (show (Instr.lookup 123 (.map (some mb)) (.int .i64 i) false).run Tryz.prog ((w2.alloc (.cells #[.int .i64 i, .int .i64 k] 136)).drewN nq) = .ok (.agg #[.int .i64 ma, .int .i64 mz, .int .i64 k, .bool false]) ((w2.alloc (.cells #[.int .i64 i, .int .i64 k] 136)).drewN nq) by
        have := (HE.out.2.2.1.fr0 ((Fr.refl [] _).drewN nq)).edges.run_get (t := 123) (e := 128) (z := edZ) Tryz.underlying3 Tryz.underlying123 (by kernel_rfl) rfl (wf_nat (s := i) (by omega))
        rw [mapG_nat, HG.out] at this
        have ht := HT.out
        simpa only [Option.map_some, Option.getD_some, ht, decide_true, decide_false, edV] using this))
      clear hl0
      go_wp2_with fail
      refine region_cw (fun w' => ∃ nq, w' = (w2.alloc (.cells #[.int .i64 i, .int .i64 k] 136)).drewN nq) (by kernel_rfl) (by kernel_rfl) ⟨1, rfl⟩ ?_
      iterate 3 (refine cw_pure (by kernel_rfl) (fun KK hK => ?_); go_simp; refine hK.out _ ?_; clear hK KK)
      refine cw_val (by kernel_rfl) (.map (some mb)) (fun w' hw' => ?_) ?_
      · obtain ⟨nq, rfl⟩ := hw'
        go_simp
      iterate 1 (refine cw_pure (by kernel_rfl) (fun KK hK => ?_); go_simp; refine hK.out _ ?_; clear hK KK)
      refine cw_val (by kernel_rfl) (.int .i64 i) (fun w' hw' => ?_) ?_
      · obtain ⟨nq, rfl⟩ := hw'
        go_simp
      refine cw_val (by kernel_rfl) (.agg #[.int .i64 ma, .int .i64 mz, .int .i64 k, .bool false]) (fun w' hw' => ?_) ?_
      · obtain ⟨nq, rfl⟩ := hw'
        have hl := HL.out nq
        go_simp
      iterate 1 (refine cw_pure (by kernel_rfl) (fun KK hK => ?_); go_simp; refine hK.out _ ?_; clear hK KK)
      refine cw_nil ?_
      rintro w4 ⟨nq, rfl⟩
      go_wp2_with fail
      have hF4 : Fr [pf, pl, g, mb] (w2.alloc (.cells #[.int .i64 i, .int .i64 k] 136)) ((w2.alloc (.cells #[.int .i64 i, .int .i64 k] 136)).drewN nq) := (Fr.refl _ _).drewN nq
      have hB4 := HE.out.2.2.1.fr0 ((Fr.refl [] _).drewN nq)
      have hbx4 := (Fr.refl [] _).drewN nq |>.blk HE.out.2.2.2.1 (by simp)
      generalize (w2.alloc (.cells #[.int .i64 i, .int .i64 k] 136)).drewN nq = w4 at *
      have hpf4 := hB4.hd
      clear c4 x0
      have HX := Lib.hid (And.intro hB4 (And.intro hF4 (And.intro hpf4 hbx4)))
      have x0 := hbx4.cell 0
      have c4 := hpf4.cell 4
      simp only [List.getElem?_cons_zero, List.getElem?_cons_succ] at x0 c4
      clear hB4 hF4 hpf4 hbx4
      refine region_one 6 (fun w' => IMap Tryz.prog 3 .i64 okA w' mb (mapG (updG G i none) (isTree G)) (n - 1) ∧ Fr [mb] w4 w') (by kernel_rfl) (by kernel_rfl) (by kernel_rfl) ?_
      iterate 6 (refine gWalk_pre (by decide) (fun K hK => ?_); go_simp; refine hK _ ?_; clear hK K)
      refine gWalk_write rfl (.tuple #[]) (fun w' hw' => ?_) ?_
      · obtain ⟨nq, rfl⟩ := hw'
        obtain ⟨w6, hrun, hI6, hF6⟩ := del.out _ _ (HX.out.1.fr0 ((Fr.refl [] _).drewN nq))
        go_simp
        first
          | exact ⟨hI6, (((Fr.refl [mb] w4).drewN nq)).trans' hF6⟩
          | exact (((Fr.refl [mb] w4).drewN nq)).trans' hF6
      refine gWalk_nil ?_
      rintro w6 ⟨hI6, hF6⟩
      have N := HH.out.2.2.1
      have hsz := HE.out.2.2.2.2
      have hbx6 := hF6.blk HX.out.2.2.2 (by simp; omega)
      have x0 := hbx6.cell 0
      simp only [List.getElem?_cons_zero] at x0
      have HI6 := Lib.hid (And.intro hI6 hF6)
      clear hI6 hF6 hbx6 c4
      go_wp2
      go_ret2
      exact ⟨by rw [HE.out.1]; rfl, fin.out _ _ _ (fun t => ((HE.out.2.1 t).trans ⟨fun h => h.1, fun h => ⟨h, by rintro rfl; exact HT.out h⟩⟩).symm) HX.out.1 HX.out.2.1 HI6.out.2 HI6.out.1⟩
end
end Go.Proofs.YtgmnemndjjmgkaaGreat
namespace Go.Proofs.YtgmnemndjjmgkaaGreat
open Go.RowKit Go.Maps
def IRange (P : Program) (k : TypeId) (q : IntKind) (ok : Value → Bool) (w : World) (b r : Nat) (m : Int → Option Value) (n : Nat) (done : List Int) (cnt : Nat) : Prop :=
  ∃ (D : DataW Value) (left : Lit → Bool), w.ranges P k (tokR ok) b r n D left cnt ∧ Tidy D ∧ Maps.size D = n ∧
    (∀ a : Int, (Lit.int q a).wf = true → (Maps.has D (.int q a) = (m a).isSome ∧ ∀ v, m a = some v → ok v = true ∧ ∀ z, D.atKey (.int q a) z = .held v)) ∧
    done.Nodup ∧ (∀ x ∈ done, (Lit.int q x).wf = true ∧ (m x).isSome = true) ∧ (∀ x, (Lit.int q x).wf = true → (left (.int q x) = true ↔ (m x).isSome = true ∧ x ∉ done))
section
variable {P : Program} {k t e : TypeId} {q : IntKind} {ok : Value → Bool} {w w' : World} {b r n cnt : Nat} {m : Int → Option Value} {done : List Int}
theorem IRange.fr {S : List Nat} (h : IRange P k q ok w b r m n done cnt) (hf : Fr S w w') (hb : b ∉ S) (hr : r ∉ S) : IRange P k q ok w' b r m n done cnt := by
 obtain ⟨D, left, h1, h2⟩ := h
 refine ⟨D, left, ?_, h2⟩
 have l1 := h1.owns.lt
 have l2 := h1.lt
 obtain ⟨es, clock, since, seen, c0, hb', F, hs, hD, hr', rest⟩ := h1
 exact ⟨es, clock, since, seen, c0, (hf.keep b l1 hb).trans hb', F, hs, hD, (hf.keep r l2 hr).trans hr', rest⟩
theorem IRange.left_eq (h : IRange P k q ok w b r m n done cnt) : w.rangeLeft b r = cnt := by
 obtain ⟨D, left, h1, _⟩ := h; exact h1.left_eq
variable {ops : Array Oper} {rest : List Oper} {o : Oper} {a : Act} {Q : Exit → Act → World → Prop}
theorem wpList_irange (hg : o.guard = none) (mo : Operand) (hop : o.op = Op.range t mo) (h : IMap P k q ok w b m n) (hk : P.underlying k = some (.int q)) (ht : P.underlying t = some (.map k e))
    (hm : a.eval mo = .map (some b)) (hK : ∀ w' cnt, IRange P k q ok w' b w.heap.size m n [] cnt → cnt ≤ n → Fr [] w w' → w'.heap.size = w.heap.size + 1 → wpList P ops Q rest (a.put o.dst (.pointer (some ⟨w.heap.size, 0, none⟩))) w') :
    wpList P ops Q (o :: rest) a w := by
 obtain ⟨D, h1, h2, h3, h4⟩ := h
 refine wpList_range_own w hg mo t hop k e (int_keyed hk) ht (tokR ok) b n D hm h1 fun w' hr hgw hs => ?_
 refine hK w' _ ⟨D, Maps.has D, hr, h2, h3, h4, .nil, (fun x hx => by cases hx), fun x hx => ?_⟩ (by rw [h3]; exact Nat.le_refl _) ((Fr.refl _ _).grown hgw (fun k e => by cases e)) hs
 rw [(h4 x hx).1]; simp
theorem wpList_inext (hg : o.guard = none) (it : Operand) (hop : o.op = Op.next it false) (hk : P.underlying k = some (.int q)) (hit : a.eval it = .pointer (some ⟨r, 0, none⟩)) (h : IRange P k q ok w b r m n done cnt)
    (hDone : (∀ x, (Lit.int q x).wf = true → (m x).isSome = true → x ∈ done) → wpList P ops Q rest (a.put o.dst (.tuple #[.bool false])) w)
    (hMore : ∀ (x : Int) (c : Value) (w' : World) (cnt' : Nat), (Lit.int q x).wf = true → m x = some c → x ∉ done → IRange P k q ok w' b r m n (done ++ [x]) cnt' → cnt' < cnt → Fr [r] w w' → w'.heap.size = w.heap.size →
      (Instr.entry (.pointer (some ⟨r, 0, none⟩))).run P w' = .ok (.tuple #[.int q x, c]) w' → wpList P ops Q rest (a.put o.dst (.tuple #[.bool true, .int q x, c])) w') :
    wpList P ops Q (o :: rest) a w := by
 obtain ⟨D, left, h1, h2, h3, h4, h5, h6, h7⟩ := h
 refine wpList_next_ranges w hg it hop k (int_keyed hk) (tokR ok) (Value.int q) (fun (c : Value) => c) (fun key kl hkey => by obtain ⟨x, rfl, _⟩ := Maps.keyOf_int_inv hk hkey; exact ⟨x, rfl⟩) (fun v y _ => ⟨v, rfl⟩) b r n D left cnt hit h1
   (fun _ hl => hDone fun x hx hs => Classical.byContradiction fun hn => by have := (h7 x hx).2 ⟨hs, hn⟩; rw [hl] at this; cases this) ?_
 intro x c kl y w' cnt' hkey hlk hv hat hrg hlt hgr hsz hen
 obtain ⟨x', ex, rfl, hw⟩ := Maps.keyOf_int_inv hk hkey
 cases ex
 obtain ⟨hsome, hnd⟩ := (h7 x hw).1 hlk
 obtain ⟨u, hu⟩ := Option.isSome_iff_exists.1 hsome
 have hcu : c = u := by {
 have e1 := hat (.held undef)
 rw [((h4 x hw).2 u hu).2] at e1
 unfold tokR at hv
 split at hv
 · cases hv; simpa using e1.symm
 · cases hv
 }
 subst hcu
 refine hMore x c w' cnt' hw hu hnd ⟨D, _, hrg, h2, h3, h4, ?_, fun z hz => ?_, fun z hz => ?_⟩ hlt ((Fr.refl _ _).grown hgr (fun k e => .inl (by simp at e; simp [e]))) hsz hen
 · exact List.nodup_append.2 ⟨h5, by simp, by rintro a ha b hb rfl; simp at hb; subst hb; exact hnd ha⟩
 {
 rcases List.mem_append.1 hz with hz | hz
 · exact h6 z hz
 · simp at hz; subst hz; exact ⟨hw, hsome⟩
 }
 {
 have e : (Lit.int q z).sameKey (.int q x) = decide (z = x) := by simp [Lit.sameKey]
 show (left (.int q z) && !(Lit.int q z).sameKey (.int q x)) = true ↔ _
 rw [e, Bool.and_eq_true, h7 z hz]
 simp only [List.mem_append, List.mem_singleton, not_or, Bool.not_eq_true', decide_eq_false_iff_not, and_assoc]
 }
end
end Go.Proofs.YtgmnemndjjmgkaaGreat
namespace Go.Proofs.YtgmnemndjjmgkaaGreat
open Go.RowKit Go.Sort
set_option maxRecDepth 10000
set_option maxHeartbeats 800000
end Go.Proofs.YtgmnemndjjmgkaaGreat
namespace Go.Proofs.YtgmnemndjjmgkaaGreat
open Go.RowKit Classical
set_option maxRecDepth 10000
set_option maxHeartbeats 1600000
section
variable {w w' : World} {pf pl g ph mb S V n : Nat} {G : EMap} {key : Nat → Int}
end
def vkey (S v : Nat) : Nat → Int := fun u => if S ≤ u ∧ u < S + v then 9223372036854775807 else 0
theorem vkey_zero (S : Nat) : vkey S 0 = fun _ => 0 := by funext u; unfold vkey; rw [if_neg (by omega)]
theorem vkey_succ {S V v : Nat} (h : v < V) : setKey (S + V) (vkey S v) ((S : Int) + v) 9223372036854775807 = vkey S (v + 1) := by
 funext u
 unfold setKey vkey
 by_cases hu : u = ((S : Int) + v).toNat
 · rw [if_pos ⟨by simp [inV]; omega, hu⟩, if_pos (by omega)]
 {
 rw [if_neg (fun h => hu h.2)]
 by_cases h2 : S ≤ u ∧ u < S + v
 · rw [if_pos h2, if_pos (by omega)]
 · rw [if_neg h2, if_neg (by omega)]
 }
theorem fnew_w (V S : Nat) (w : World) (hV : V ≤ 4096) (hS : S ≤ 16384) :
    Calls Tryz.prog 123 #[.int .i64 V, .int .i64 S] w fun r w' => ∃ pf, r = .returned (.tuple #[fptr pf, .int .i64 0]) ∧ ∃ L, FAt w' pf S V (fun _ => none) L ∧ Fr [] w w' ∧ ∀ q ∈ L, w.heap.size ≤ q := by
 have d1 : decide ((V : Int) < 0) = false := decide_eq_false (by omega)
 have d2 : decide ((V : Int) > 4096) = false := decide_eq_false (by omega)
 have d3 : decide ((S : Int) < 0) = false := decide_eq_false (by omega)
 have d4 : decide ((S : Int) > 16384) = false := decide_eq_false (by omega)
 have d2' : ¬ 4096 < V := by omega
 have d4' : ¬ 16384 < S := by omega
 have hw1 : IntKind.i64.wrap ((S : Int) + V) = ((S + V : Nat) : Int) := by rw [show (S : Int) + V = ((S + V : Nat) : Int) by omega]; exact IntWalk.i64_in _ (by omega)
 have hmk : ∀ W : World, (Instr.makeMap 123 none).run Tryz.prog W = .ok (.map (some W.heap.size)) (W.alloc (.map #[] 0)) := fun W => by kernel_rfl
 have HL := Lib.hid (new_w (S + V) w (by omega))
 have HHn := Lib.hid (fun (w' : World) => hnew_w S w' (by omega))
 go_enter Tryz.func123, Tryz.ntmps123
 go_wp2_with (go_at_call 166; refine HL.out.mono ?_; rintro _ w1 ⟨pl, g, rfl, hL1, hF1, hp1, hg1⟩)
 have H1 := Lib.hid (And.intro hL1 (And.intro hF1 (And.intro hp1 hg1)))
 clear hL1 hF1 hp1 hg1 HL
 go_loopw [35] (fun x wr => ∃ v : Nat, v ≤ V ∧ x = .int .i64 v ∧ Hid (LM wr pl g (S + V) (fun _ _ => False) (vkey S v) ∧ Fr [] w wr)) (fun x _ => V - (intOf x).toNat)
 case atStart => exact ⟨0, Nat.zero_le _, rfl, Lib.hid ⟨by rw [vkey_zero]; exact H1.out.1, H1.out.2.1⟩⟩
 case round =>
  obtain ⟨v, hv, rfl, HR⟩ := hrel
  by_cases hlt : v < V
  {
  have hlt' : (v : Int) < V := by omega
  have SW := set_w HR.out.1 ((S : Int) + v) 9223372036854775807
  rw [vkey_succ hlt] at SW
  have HS := Lib.hid SW; clear SW
  have hw2 : IntKind.i64.wrap ((S : Int) + v) = (S : Int) + v := IntWalk.i64_in _ (by omega)
  have hw3 : IntKind.i64.wrap ((v : Int) + 1) = ((v + 1 : Nat) : Int) := by rw [show (v : Int) + 1 = ((v + 1 : Nat) : Int) by omega]; exact IntWalk.i64_in _ (by omega)
  go_wp2_with (go_at_call 167; refine HS.out.mono ?_; rintro _ w2 ⟨rfl, hL2, hF2⟩)
  go_roundw
  case rel => exact ⟨v + 1, by omega, rfl, Lib.hid ⟨hL2, HR.out.2.trans hF2 (fun q hq => .inr (by simp at hq; subst hq; exact H1.out.2.2.2))⟩⟩
  case measure => simp [intOf]; omega
  }
  {
  obtain rfl : v = V := by omega
  have HN := Lib.hid (HHn.out wr)
  go_wp2_with (go_at_call 165; refine HN.out.mono ?_; rintro _ w3 ⟨ph, rfl, l, hH3, hF3, hN3⟩)
  go_ret2
  have hn : ∀ t, ¬ isTree (fun _ => none) t := by rintro t ⟨_, _, _, e, _⟩; cases e
  have hc0 : cntT S (isTree fun _ => none) = 0 := by rw [cntT_congr (T' := fun _ => False) (fun t => ⟨hn t, False.elim⟩), cntT_none]
  have hb := Blk.new (w3.alloc (.map #[] 0)) [.int .i64 v, .int .i64 S, fptr pl, hptr ph, .map (some w3.heap.size), .int .i64 0] 125
  have hm := IMap.made w3 Tryz.prog 3 .i64 okA
  have hf : Fr [] wr ((w3.alloc (.map #[] 0)).alloc (.cells [.int .i64 v, .int .i64 S, fptr pl, hptr ph, .map (some w3.heap.size), .int .i64 0].toArray 125)) := (hF3.alloc _).alloc _
  have hl := (LG.lts HR.out.1)
  have hsz := hF3.size
  have hsr := HR.out.2.size
  have hw1s := H1.out.2.1.size
  have hf2 : Fr [] w3 ((w3.alloc (.map #[] 0)).alloc (.cells [.int .i64 v, .int .i64 S, fptr pl, hptr ph, .map (some w3.heap.size), .int .i64 0].toArray 125)) := ((Fr.refl _ _).alloc _).alloc _
  refine ⟨w3.heap.size + 1, rfl, _, ⟨pl, g, ph, w3.heap.size, l, vkey S v, 0, ⟨?_, ?_, ?_, GW.no S v, ⟨fun _ _ _ _ h => (by cases h), fun u hu => ?_⟩, ?_, hS, hV, ?_, ?_, ?_, ?_, ?_⟩, ?_, ?_, rfl⟩, HR.out.2.trans hf (by simp), ?_⟩
  · rw [hc0]; simpa using hb
  · rw [te_none]; exact LG.fr HR.out.1 hf (by simp) (by simp)
  {
  have e : mapG (fun _ => none) (isTree fun _ => none) = fun _ => none := by funext k; unfold mapG; split <;> rfl
  rw [e]
  exact (hm.same (Below.heap_alloc _ _ _ (by simp)))
  }
  · unfold vkey; rw [if_pos (by omega)]
  · rw [cntT_congr (T' := fun _ => False) (fun t => by simp), cntT_none]
  · have := hl.1; omega
  · have := hl.2.1; omega
  · omega
  · have := hl.1; omega
  · have := hl.2.1; omega
  · exact hH3.fr hf2 (by simp)
  {
  intro b hb
  have h1 := hN3 b hb
  have h2 := hH3.lt b hb
  have := hl.1
  have := hl.2.1
  omega
  }
  {
  intro q hq
  simp only [List.mem_cons] at hq
  have h1 := H1.out.2.2
  rcases hq with rfl | rfl | rfl | rfl | hq
  · omega
  · exact h1.1
  · exact h1.2
  · omega
  · have := hN3 q hq; omega
  }
  }
set_option maxHeartbeats 800000
structure FO (w wr : World) (pf S V : Nat) (G : EMap) (L : List Nat) : Prop where
  f : FAt wr pf S V G L
  fr : Fr [] w wr
  new : ∀ q ∈ L, w.heap.size ≤ q
def FM (w wr w' : World) (pf S V : Nat) (G : EMap) (L : List Nat) : Prop := ∃ L', FO w w' pf S V G L' ∧ Fr L wr w' ∧ ∀ q ∈ L', q ∈ L ∨ wr.heap.size ≤ q
section
variable {w wr w' : World} {pf S V : Nat} {G G' : EMap} {L L' : List Nat}
theorem FO.next (h : FO w wr pf S V G L) (h1 : FAt w' pf S V G' L') (h2 : Fr L wr w') (h3 : ∀ q ∈ L', q ∈ L ∨ wr.heap.size ≤ q) : FM w wr w' pf S V G' L :=
  ⟨L', ⟨h1, h.fr.trans h2 (fun q hq => .inr (h.new q hq)), fun q hq => (h3 q hq).elim (h.new q) (fun e => Nat.le_trans h.fr.size e)⟩, h2, h3⟩
theorem FO.keep (h : FO w wr pf S V G L) {X : List Nat} (hf : Fr X wr w') (hx : ∀ b ∈ L, b ∉ X) (hw : ∀ b ∈ X, w.heap.size ≤ b) : FO w w' pf S V G L :=
  ⟨h.f.fr hf hx, h.fr.trans hf (fun q hq => .inr (hw q hq)), h.new⟩
theorem FO.keep0 (h : FO w wr pf S V G L) (hf : Fr [] wr w') : FO w w' pf S V G L := h.keep hf (by simp) (by simp)
theorem FO.self (h : FO w wr pf S V G L) (h2 : Fr [] wr w') : FM w wr w' pf S V G L := ⟨L, h.keep0 h2, h2.mono (by simp), fun _ hq => .inl hq⟩
theorem FAt.gw (h : FAt wr pf S V G L) : GW S V G ∧ S ≤ 16384 ∧ V ≤ 4096 := by
 obtain ⟨pl, g, ph, mb, l, key, n, h1, _⟩ := h; exact ⟨h1.gw, h1.leS, h1.leV⟩
theorem fo_add (h : FO w wr pf S V G L) (s a b x : Int) (hx : -9223372036854775808 ≤ x ∧ x ≤ 9223372036854775807) :
    Calls Tryz.prog 114 #[fptr pf, .int .i64 s, .int .i64 a, .int .i64 b, .int .i64 x] wr fun e w' => e = .returned (.int .i64 (addCode S V G s a b)) ∧ FM w wr w' pf S V (addG S V G s a b x) L := by
 by_cases h1 : inV S s = true ∧ inV V a = true ∧ inV V b = true
 {
 obtain ⟨s, rfl, hs⟩ := inV_nat h1.1
 obtain ⟨a, rfl, ha⟩ := inV_nat h1.2.1
 obtain ⟨b, rfl, hb⟩ := inV_nat h1.2.2
 by_cases hab : a = b
 {
 have e1 : addCode S V G s a b = 9 := by unfold addCode; rw [if_pos h1, if_pos (by omega)]
 have e2 : addG S V G s a b x = G := by unfold addG; rw [e1, if_neg (by omega)]
 rw [e1, e2]
 obtain ⟨pl, g, ph, mb, l, key, n, hB, _⟩ := id h.f
 refine (fadd_no hB hs ha hb x (.inl hab)).mono ?_
 rintro e w' ⟨rfl, hf⟩
 exact ⟨by rw [if_pos hab], h.self hf⟩
 }
 {
 cases hg : G s with
 | some e => {
 have e1 : addCode S V G s a b = 6 := by unfold addCode; rw [if_pos h1, if_neg (by omega), Int.toNat_natCast, hg]; rfl
 have e2 : addG S V G s a b x = G := by unfold addG; rw [e1, if_neg (by omega)]
 rw [e1, e2]
 obtain ⟨pl, g, ph, mb, l, key, n, hB, _⟩ := id h.f
 refine (fadd_no hB hs ha hb x (.inr ⟨hab, by rw [hg]; rfl⟩)).mono ?_
 rintro e w' ⟨rfl, hf⟩
 exact ⟨by rw [if_neg hab], h.self hf⟩
 }
 | none => {
 have e1 : addCode S V G s a b = 0 := by unfold addCode; rw [if_pos h1, if_neg (by omega), Int.toNat_natCast, hg]; rfl
 have e2 : addG S V G s a b x = updG G s (some (a, b, x)) := by unfold addG; rw [e1, if_pos rfl]; simp
 rw [e1, e2]
 refine (fadd_yes h.f hs ha hb hab hg x hx).mono ?_
 rintro e w' ⟨rfl, L', h2, h3, h4⟩
 exact ⟨rfl, h.next h2 h3 h4⟩
 }
 }
 }
 {
 have e1 : addCode S V G s a b = 3 := by unfold addCode; rw [if_neg h1]
 have e2 : addG S V G s a b x = G := by unfold addG; rw [e1, if_neg (by omega)]
 rw [e1, e2]
 obtain ⟨pl, g, ph, mb, l, key, n, hB, _⟩ := id h.f
 refine (fadd_bad hB s a b x h1).mono ?_
 rintro e w' ⟨rfl, rfl⟩
 exact ⟨rfl, h.self (Fr.refl _ _)⟩
 }
theorem fo_exp (h : FO w wr pf S V G L) : Calls Tryz.prog 45 #[fptr pf] wr fun e w' => e = .returned (.tuple #[.int .i64 ((fstG G).getD 0 : Nat), .bool (fstG G).isSome]) ∧ FM w wr w' pf S V (popG G) L := by
 refine (fexp_w h.f).mono ?_
 rintro e w' ⟨rfl, L', h2, h3, h4⟩
 exact ⟨rfl, h.next h2 h3 h4⟩
theorem fo_ask {pl g ph mb n : Nat} {l : List Nat} {key : Nat → Int} (h : FO w wr pf S V G (pf :: pl :: g :: mb :: l)) (hH : HeapAt wr ph S (qOf G) n l) (hD : ∀ b ∈ l, b ≠ pf ∧ b ≠ pl ∧ b ≠ g ∧ b ≠ mb) (hB : FB w' pf pl g ph mb S V G (isTree G) key n) (hF : Fr [g] wr w') : FM w wr w' pf S V G (pf :: pl :: g :: mb :: l) :=
  h.next ⟨pl, g, ph, mb, l, key, n, hB, hH.fr hF (fun b hb hm => by simp at hm; exact (hD b hb).2.2.1 hm), hD, rfl⟩ (hF.mono (fun q hq => .inl (by simp at hq; simp [hq]))) (fun q hq => .inl hq)
theorem fo_size (h : FO w wr pf S V G L) (a : Int) : Calls Tryz.prog 59 #[fptr pf, .int .i64 a] wr fun e w' => e = .returned (.int .i64 (sizeG V G a)) ∧ FM w wr w' pf S V G L := by
 obtain ⟨pl, g, ph, mb, l, key, n, hB, hH, hD, rfl⟩ := id h.f
 refine (fsize_w hB a).mono ?_
 rintro e w' ⟨rfl, h2, h3⟩
 exact ⟨rfl, fo_ask h hH hD h2 h3⟩
theorem fo_until (h : FO w wr pf S V G L) (a b : Int) : Calls Tryz.prog 39 #[fptr pf, .int .i64 a, .int .i64 b] wr fun e w' => e = .returned (.tuple #[.int .i64 (untilV V G a b), .bool (untilB V G a b)]) ∧ FM w wr w' pf S V G L := by
 obtain ⟨pl, g, ph, mb, l, key, n, hB, hH, hD, rfl⟩ := id h.f
 refine (funtil_w hB a b).mono ?_
 rintro e w' ⟨rfl, h2, h3⟩
 exact ⟨rfl, fo_ask h hH hD h2 h3⟩
noncomputable def compG (V : Nat) (G : EMap) : Nat := cntT V (Lead G fun _ => True)
theorem comp_tree (hG : GW S V G) : compG V G + cntT S (isTree G) = V := by
 have h1 := lead_tree hG
 have h2 : compG V G = cntT V (Lead G (isTree G)) := by {
 unfold compG
 exact cntT_congr fun v => by unfold Lead; simp only [cx_tree hG]
 }
 omega
theorem fo_count (h : FO w wr pf S V G L) : Calls Tryz.prog 49 #[fptr pf] wr fun e w' => e = .returned (.int .i64 (compG V G)) ∧ FO w w' pf S V G L ∧ Fr [] wr w' := by
 obtain ⟨pl, g, ph, mb, l, key, n, hB, _⟩ := id h.f
 have e1 := comp_tree hB.gw
 refine (fcount_w hB).mono ?_
 rintro e w' ⟨rfl, h3⟩
 refine ⟨?_, h.keep0 h3, h3⟩
 rw [show (V : Int) - cntT S (isTree G) = compG V G by omega]
end
end Go.Proofs.YtgmnemndjjmgkaaGreat
