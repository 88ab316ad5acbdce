/- forest: Add, where the edge is taken. -/
import Derived.Deep.RegionHeld3
import Derived.Test.YtgmnemndjjmgkaaGreatB18
import Derived.Test.YtgmnemndjjmgkaaGreatB15
import Derived.Test.YtgmnemndjjmgkaaGreatB16
set_option linter.unusedSimpArgs false
set_option linter.unusedVariables false
/- forest: loosen and fasten. -/
namespace Go.Proofs.YtgmnemndjjmgkaaGreat
open Go.RowKit Classical
set_option maxRecDepth 10000
set_option maxHeartbeats 1600000
theorem inV_lt {N a : Nat} (h : a < N) : inV N (a : Int) = true := by simp [inV]; omega
section
variable {w w' : World} {pl g N : Nat} {E : Nat → Nat → Prop} {key : Nat → Int}
theorem cut_ok (h : LM w pl g N E key) {a b : Nat} (ha : a < N) (hb : b < N) (he : E a b) (b' : Int) (hb' : b' = b) :
    Calls Tryz.prog 138 #[.pointer (some ⟨pl, 0, none⟩), .int .i64 a, .int .i64 b'] w fun e w' => e = .returned (.int .i64 0) ∧ LM w' pl g N (delE E a b) key ∧ Fr [pl, g] w w' := by
 subst hb'
 have h1 := cut_w h a b
 have e1 : cutCode N E a b = 0 := by unfold cutCode; rw [if_pos ⟨inV_lt ha, inV_lt hb⟩]; simp [he]
 have e2 : cutE N E a b = delE E a b := by unfold cutE; rw [if_pos e1]; rfl
 rw [e1, e2] at h1
 exact h1
theorem link_ok' (h : LM w pl g N E key) {a b : Nat} (ha : a < N) (hb : b < N) (hne : a ≠ b) (hc : ¬ Conn E a b) (b' : Int) (hb' : b' = b) :
    Calls Tryz.prog 197 #[.pointer (some ⟨pl, 0, none⟩), .int .i64 a, .int .i64 b'] w fun e w' => e = .returned (.int .i64 0) ∧ LM w' pl g N (addE E a b) key ∧ Fr [pl, g] w w' := by
 subst hb'
 exact link_ok h a b ha hb hne hc
end
section
variable {w w' : World} {pf pl g ph mb S V n : Nat} {G : EMap} {T : Nat → Prop} {key : Nat → Int} {l : List Nat}
theorem mapG_put {s : Nat} {e : Nat × Nat × Int} {T' : Nat → Prop} {v : Value} (hg : G s = some e) (hv : v = edV e (decide (T' s))) (hT : ∀ t, t ≠ s → (T t ↔ T' t)) : updM (mapG G T) s (some v) = mapG G T' := by
 funext k
 by_cases hk : k = (s : Int)
 · subst hk; rw [updM_same, mapG_nat, hg, hv]; rfl
 {
 rw [updM_other hk]
 unfold mapG
 by_cases h0 : 0 ≤ k
 {
 have : k.toNat ≠ s := by omega
 simp only [hT _ this]
 }
 · simp only [h0, if_false]
 }
theorem wf_nat {s : Nat} (h : s ≤ 100000) : (Lit.int .i64 (s : Int)).wf = true := by
 show (decide ((-9223372036854775808 : Int) ≤ s) && decide ((s : Int) ≤ 9223372036854775807)) = true
 simp; omega
theorem loosen_w (h : FB w pf pl g ph mb S V G T key n) {m ma mz : Nat} {y : Int} (hg : G m = some (ma, mz, y)) (ht : T m) :
    Calls Tryz.prog 89 #[fptr pf, .int .i64 m] w fun e w' => e = .returned (.tuple #[]) ∧ FB w' pf pl g ph mb S V G (fun t => T t ∧ t ≠ m) key n ∧ Fr [pf, pl, g, mb] w w' := by
 have hms := h.gw.slot _ _ hg
 have hen := h.gw.ends _ _ _ _ hg
 have hS := h.leS
 have hV := h.leV
 have hlt := h.lt
 have hcT := cntT_drop hms ht
 have hcle := cntT_le S T
 have hne := And.intro h.ne1 (And.intro h.ne2 (And.intro h.ne3 (And.intro h.ne4 h.ne5)))
 have hl0 := h.edges.run_get (t := 123) (e := 128) (z := edZ) Tryz.underlying3 Tryz.underlying123 (by kernel_rfl) rfl (wf_nat (s := m) (by omega))
 rw [mapG_nat, hg] at hl0
 simp only [Option.map_some, Option.getD_some, ht, decide_true, edV] at hl0
 have e1 : TE S G T m (S + ma) := ⟨m, ma, mz, y, hg, ht, .inl ⟨rfl, .inl rfl⟩⟩
 have e2 : delE (TE S G T) m (S + ma) m (S + mz) := ⟨⟨m, ma, mz, y, hg, ht, .inl ⟨rfl, .inr rfl⟩⟩, by omega, by omega⟩
 have c1 := (h.hd.alloc (.cells #[.int .i64 ma, .int .i64 mz, .int .i64 y, .bool true] 128)).cell 1
 have c2 := (h.hd.alloc (.cells #[.int .i64 ma, .int .i64 mz, .int .i64 y, .bool true] 128)).cell 2
 have c4 := h.hd.cell 4
 simp only [List.getElem?_cons_zero, List.getElem?_cons_succ] at c1 c2 c4
 have hw1 : IntKind.i64.wrap ((S : Int) + ma) = (S : Int) + ma := IntWalk.i64_in _ (by omega)
 have hw2 : IntKind.i64.wrap ((S : Int) + mz) = (S : Int) + mz := IntWalk.i64_in _ (by omega)
 have hf0 : Fr [] w (w.alloc (.cells #[.int .i64 ma, .int .i64 mz, .int .i64 y, .bool true] 128)) := (Fr.refl _ _).alloc _
 have hb := Blk.new w [.int .i64 ma, .int .i64 mz, .int .i64 y, .bool true] 128
 have HC1 := Lib.hid (cut_ok (h.fr0 hf0.drew).lct (a := m) (b := S + ma) (by omega) (by omega) e1 ((S : Int) + ma) (by omega))
 have H := Lib.hid h
 have E2 := Lib.hid e2
 have HB := Lib.hid (And.intro hf0 hb)
 have HN := Lib.hid (And.intro hne hlt)
 clear h e1 e2 hf0 hb hne hlt
 have x0 := HB.out.2.cell 0
 have x1 := HB.out.2.cell 1
 simp only [List.getElem?_cons_zero, List.getElem?_cons_succ] at x0 x1
 go_enter Tryz.func89, Tryz.ntmps89
 go_wp2
 go_region_held3 (fun w' => w'.cell? ⟨pf, 1, none⟩ = some (.int .i64 S) ∧ w'.cell? ⟨pf, 2, none⟩ = some (fptr pl) ∧ w'.cell? ⟨w.heap.size, 0, none⟩ = some (.int .i64 ma))
   (first
     | go_keep
     | (have N := HN.out; exact ⟨hF3.cell (by simp_all) (by simp; omega), hF3.cell (by simp_all) (by simp; omega), hF3.cell (by simp_all) (by simp; omega)⟩))
   (first
     | (go_at_call 138; refine HC1.out.mono ?_; rintro e w3 ⟨rfl, hL3, hF3⟩))
 have hlt3 := HN.out.2
 have hpf3 : Blk w3 pf _ _ := hF3.blk ((Fr.refl [] _).drew.blk (HB.out.1.blk H.out.hd (by simp)) (by simp)) (by have N := HN.out; simp; omega)
 have hbx3 : Blk w3 w.heap.size _ _ := hF3.blk ((Fr.refl [] _).drew.blk HB.out.2 (by simp)) (by simp; omega)
 have hF3' : Fr [pl, g] w w3 := (HB.out.1.drew.mono (S' := [pl, g]) (by simp)).trans' hF3
 have HC2 := Lib.hid (cut_ok (show LM w3.drew pl g (S + V) (delE (TE S G T) m (S + ma)) key from LG.fr hL3 (Fr.refl [] _).drew (by simp) (by simp)) (a := m) (b := S + mz) (by omega) (by omega) E2.out ((S : Int) + mz) (by omega))
 have d1 := hpf3.cell 1
 have d2 := hpf3.cell 2
 have y1 := hbx3.cell 1
 simp only [List.getElem?_cons_zero, List.getElem?_cons_succ] at d1 d2 y1
 have HF3 := Lib.hid (And.intro hF3' (And.intro hpf3 hbx3))
 clear hF3' hpf3 hbx3 hF3 hL3 HC1 c1 c2 x0 x1
 go_wp2
 go_region_held3 (fun w' => w'.cell? ⟨pf, 1, none⟩ = some (.int .i64 S) ∧ w'.cell? ⟨pf, 2, none⟩ = some (fptr pl) ∧ w'.cell? ⟨w.heap.size, 1, none⟩ = some (.int .i64 mz))
   (first
     | go_keep
     | (have N := HN.out; exact ⟨hF4.cell (by simp_all) (by simp; omega), hF4.cell (by simp_all) (by simp; omega), hF4.cell (by simp_all) (by simp; omega)⟩))
   (first
     | (go_at_call 138; refine HC2.out.mono ?_; rintro e w4 ⟨rfl, hL4, hF4⟩))
 have hpf4 : Blk w4 pf _ _ := hF4.blk ((Fr.refl [] _).drew.blk HF3.out.2.1 (by simp)) (by have N := HN.out; simp; omega)
 have hbx4 : Blk w4 w.heap.size _ _ := hF4.blk ((Fr.refl [] _).drew.blk HF3.out.2.2 (by simp)) (by simp; omega)
 have hF4' : Fr [pl, g] w w4 := (HF3.out.1.drew).trans' hF4
 rw [te_del H.out.gw.slot hg] at hL4
 have y3 := hbx4.cell 3
 have z3 := hbx4.frozen 3
 simp only [List.getElem?_cons_zero, List.getElem?_cons_succ] at y3
 have hbx5 := hbx4.set 3 (.bool false)
 have hpf5 := hpf4.other ⟨w.heap.size, 3, none⟩ (.bool false) (by show pf ≠ w.heap.size; omega)
 have HL4 := Lib.hid (And.intro hL4 hF4')
 have HX5 := Lib.hid (And.intro hpf5 hbx5)
 clear hL4 hF4' hpf4 hbx4 hpf5 hbx5 hF4 HC2 d1 d2 y1
 go_wp2
 have HS5 := Lib.hid (show Fr [w.heap.size] w4 (w4.setCell ⟨w.heap.size, 3, none⟩ (.bool false)) from (Fr.refl _ _).setCell _ _ (.inl (by simp)))
 generalize w4.setCell ⟨w.heap.size, 3, none⟩ (.bool false) = w5 at *
 clear y3 z3
 have hI5 : IMap Tryz.prog 3 .i64 okA w5 mb (mapG G T) n := H.out.edges.same (by
   rw [HS5.out.keep mb (by have := HL4.out.2.size; omega) (by simp; omega), HL4.out.2.keep mb (by omega) (by have N := HN.out; simp; omega)])
 have f4 := HX5.out.1.cell 4
 have y0 := HX5.out.2.cell 0
 have y1 := HX5.out.2.cell 1
 have y2 := HX5.out.2.cell 2
 have y3 := HX5.out.2.cell 3
 simp only [List.set_cons_succ, List.set_cons_zero, List.getElem?_cons_zero, List.getElem?_cons_succ] at f4 y0 y1 y2 y3
 have HI5 := Lib.hid hI5; clear hI5
 refine region_one 6 (fun w' => IMap Tryz.prog 3 .i64 okA w' mb (mapG G (fun t => T t ∧ t ≠ m)) n ∧ Fr [mb] w5 w') (by kernel_rfl) (by kernel_rfl) (by kernel_rfl) ?_
 iterate 6 (refine gWalk_pre (by decide) (fun K hK => ?_); go_simp; refine hK _ ?_; clear hK K)
 refine gWalk_write rfl undef (fun w' hw' => ?_) ?_
 {
 obtain ⟨nq, rfl⟩ := hw'
 obtain ⟨w6, hrun, hI6, hF6⟩ := (HI5.out.same (w' := w5.drewN nq) rfl).put (t := 123) (e := 128) Tryz.underlying3 Tryz.underlying123 (by rw [H.out.cn]; unfold maxLen; have := cntT_le S (fun s => (G s).isSome = true); omega) (wf_nat (s := m) (by omega)) (v := .agg #[.int .i64 ma, .int .i64 mz, .int .i64 y, .bool false]) rfl
 rw [mapG_nat, hg, mapG_put (T' := fun t => T t ∧ t ≠ m) hg (by simp [edV]) (fun t ht => by simp [ht])] at hI6
 go_simp
 exact ⟨hI6, (((Fr.refl [mb] w5).drewN nq)).trans' hF6⟩
 }
 refine gWalk_nil ?_
 rintro w6 ⟨hI6, hF6⟩
 have hpf6 := hF6.blk HX5.out.1 (by have N := HN.out; simp; omega)
 rw [← hcT] at hpf6
 generalize hz : cntT S (fun t => T t ∧ t ≠ m) = z at *
 have f5 : w6.cell? ⟨pf, 5, none⟩ = some (.int .i64 ((z : Int) + 1)) := hpf6.cell 5
 have q5 := hpf6.frozen 5
 have hw5 : IntKind.i64.wrap ((z : Int) + 1 - 1) = (z : Int) := by rw [show (z : Int) + 1 - 1 = z by omega]; exact IntWalk.i64_in _ (by omega)
 have hpf7 := hpf6.set 5 (.int .i64 (z : Int))
 have HP7 := Lib.hid hpf7
 have HI6 := Lib.hid (And.intro hI6 hF6)
 have HZ := Lib.hid hz
 clear hpf6 hpf7 hI6 hF6 hz f4 y0 y1 y2 y3
 go_wp2
 go_end0
 have e7 : (z : Int) + 1 - 1 = z := by omega
 have hF7 : Fr [pf] w6 (w6.setCell ⟨pf, 5, none⟩ (.int .i64 (z : Int))) := (Fr.refl _ _).setCell _ _ (.inl (by simp))
 have N := HN.out
 have s4 := HL4.out.2.size
 have hF47 : Fr [w.heap.size, mb, pf] w4 (w6.setCell ⟨pf, 5, none⟩ (.int .i64 (z : Int))) :=
   ((HS5.out.mono (fun q hq => .inl (by simp at hq ⊢; exact .inl hq))).trans' (HI6.out.2.mono (fun q hq => .inl (by simp at hq ⊢; exact .inr (.inl hq))))).trans' (hF7.mono (fun q hq => .inl (by simp at hq ⊢; exact .inr (.inr hq))))
 try rw [e7]
 refine ⟨rfl, ⟨?_, LG.fr HL4.out.1 hF47 (by simp; omega) (by simp; omega), HI6.out.1.same (hF7.keep mb HI6.out.1.lt (by simp; omega)), H.out.gw, ⟨fun t a b x h1 h2 => H.out.keys.slot t a b x h1 h2.1, H.out.keys.vert⟩, H.out.cn, H.out.leS, H.out.leV, H.out.ne1, H.out.ne2, H.out.ne3, H.out.ne4, H.out.ne5⟩,
   (HL4.out.2.mono (fun q hq => .inl (by simp at hq ⊢; omega))).trans hF47 (fun q hq => by simp at hq ⊢; omega)⟩
 rw [HZ.out]
 exact HP7.out
theorem set_ok {w : World} {pl g N : Nat} {E : Nat → Nat → Prop} {key : Nat → Int} (h : LM w pl g N E key) {a : Nat} (ha : a < N) (k : Int) :
    Calls Tryz.prog 167 #[.pointer (some ⟨pl, 0, none⟩), .int .i64 a, .int .i64 k] w fun e w' => e = .returned (.int .i64 0) ∧ LM w' pl g N E (setKey N key a k) ∧ Fr [pl, g] w w' := by
 refine (set_w h a k).mono ?_
 rintro e w' ⟨rfl, h1, h2⟩
 exact ⟨by unfold setCode; rw [inV_lt ha]; rfl, h1, h2.mono (fun q hq => .inl (by simp at hq ⊢; exact .inr hq))⟩
theorem setKey_same {N a : Nat} (ha : a < N) (key : Nat → Int) (k : Int) : setKey N key a k a = k := by
 unfold setKey; rw [if_pos ⟨inV_lt ha, by simp⟩]
theorem setKey_other {N a v : Nat} (key : Nat → Int) (k : Int) (hv : v ≠ a) : setKey N key a k v = key v := by
 unfold setKey; rw [if_neg (by simp; omega)]
theorem fasten_w (h : FB w pf pl g ph mb S V G T key n) {m ma mz : Nat} {y : Int} (hg : G m = some (ma, mz, y)) (ht : ¬ T m) (hc : ¬ Cx G T ma mz) :
    Calls Tryz.prog 161 #[fptr pf, .int .i64 m] w fun e w' => e = .returned (.tuple #[]) ∧ FB w' pf pl g ph mb S V G (fun t => T t ∨ t = m) (setKey (S + V) key m y) n ∧ Fr [pf, pl, g, mb] w w' := by
 have hms := h.gw.slot _ _ hg
 have hen := h.gw.ends _ _ _ _ hg
 have hS := h.leS
 have hV := h.leV
 have hlt := h.lt
 have hcT := cntT_put hms ht
 have hcle := cntT_le S T
 have hne := And.intro h.ne1 (And.intro h.ne2 (And.intro h.ne3 (And.intro h.ne4 h.ne5)))
 have hl0 := h.edges.run_get (t := 123) (e := 128) (z := edZ) Tryz.underlying3 Tryz.underlying123 (by kernel_rfl) rfl (wf_nat (s := m) (by omega))
 rw [mapG_nat, hg] at hl0
 simp only [Option.map_some, Option.getD_some, ht, decide_false, edV] at hl0
 have hfr := h.frs
 have n1 : ¬ Conn (TE S G T) m (S + ma) := te_alone ht hms (by omega) hfr
 have n2 : ¬ Conn (TE S G T) m (S + mz) := te_alone ht hms (by omega) hfr
 have n3 : ¬ Conn (TE S G T) (S + ma) (S + mz) := fun e => hc ((te_iff h.gw.slot hfr).1 e)
 have e2 : Frs (addE (TE S G T) m (S + ma)) → ¬ Conn (addE (TE S G T) m (S + ma)) m (S + mz) := by {
 intro h' e
 rcases (conn_add hfr h' _ _).1 e with e | ⟨_, e⟩ | ⟨_, e⟩
 · exact n2 e
 · exact n3 e
 · exact n2 e
 }
 have c1 := (h.hd.alloc (.cells #[.int .i64 ma, .int .i64 mz, .int .i64 y, .bool false] 128)).cell 1
 have c2 := (h.hd.alloc (.cells #[.int .i64 ma, .int .i64 mz, .int .i64 y, .bool false] 128)).cell 2
 have c4 := h.hd.cell 4
 simp only [List.getElem?_cons_zero, List.getElem?_cons_succ] at c1 c2 c4
 have hw1 : IntKind.i64.wrap ((S : Int) + ma) = (S : Int) + ma := IntWalk.i64_in _ (by omega)
 have hw2 : IntKind.i64.wrap ((S : Int) + mz) = (S : Int) + mz := IntWalk.i64_in _ (by omega)
 have hf0 : Fr [] w (w.alloc (.cells #[.int .i64 ma, .int .i64 mz, .int .i64 y, .bool false] 128)) := (Fr.refl _ _).alloc _
 have hb := Blk.new w [.int .i64 ma, .int .i64 mz, .int .i64 y, .bool false] 128
 have HC0 := Lib.hid (set_ok (h.fr0 hf0.drew).lct (a := m) (by omega) y)
 have H := Lib.hid h
 have E1 := Lib.hid n1
 have E2 := Lib.hid e2
 have HB := Lib.hid (And.intro hf0 hb)
 have HN := Lib.hid (And.intro hne hlt)
 clear h e2 n1 n2 n3 hf0 hb hne hlt hfr hc
 have x2 := HB.out.2.cell 2
 simp only [List.getElem?_cons_zero, List.getElem?_cons_succ] at x2
 go_enter Tryz.func161, Tryz.ntmps161
 go_wp2
 go_region_held3 (fun w' => w'.cell? ⟨pf, 2, none⟩ = some (fptr pl) ∧ w'.cell? ⟨w.heap.size, 2, none⟩ = some (.int .i64 y))
   (first
     | go_keep
     | (have N := HN.out; exact ⟨hF2.cell (by simp_all) (by simp; omega), hF2.cell (by simp_all) (by simp; omega)⟩))
   (first
     | (go_at_call 167; refine HC0.out.mono ?_; rintro e w2 ⟨rfl, hL2, hF2⟩))
 have hlt3 := HN.out.2
 have hpf2 : Blk w2 pf _ _ := hF2.blk ((Fr.refl [] _).drew.blk (HB.out.1.blk H.out.hd (by simp)) (by simp)) (by have N := HN.out; simp; omega)
 have hbx2 : Blk w2 w.heap.size _ _ := hF2.blk ((Fr.refl [] _).drew.blk HB.out.2 (by simp)) (by simp; omega)
 have hF2' : Fr [pl, g] w w2 := (HB.out.1.drew.mono (S' := [pl, g]) (by simp)).trans' hF2
 have HC1 := Lib.hid (link_ok' (show LM w2.drew pl g (S + V) (TE S G T) (setKey (S + V) key m y) from LG.fr hL2 (Fr.refl [] _).drew (by simp) (by simp)) (a := m) (b := S + ma) (by omega) (by omega) (by omega) E1.out ((S : Int) + ma) (by omega))
 have d1 := hpf2.cell 1
 have d2 := hpf2.cell 2
 have y1 := hbx2.cell 0
 simp only [List.getElem?_cons_zero, List.getElem?_cons_succ] at d1 d2 y1
 have HF2 := Lib.hid (And.intro hF2' (And.intro hpf2 hbx2))
 clear hF2' hpf2 hbx2 hF2 hL2 HC0 c1 c2 x2
 go_wp2
 go_region_held3 (fun w' => w'.cell? ⟨pf, 1, none⟩ = some (.int .i64 S) ∧ w'.cell? ⟨pf, 2, none⟩ = some (fptr pl) ∧ w'.cell? ⟨w.heap.size, 0, none⟩ = some (.int .i64 ma))
   (first
     | go_keep
     | (have N := HN.out; exact ⟨hF3.cell (by simp_all) (by simp; omega), hF3.cell (by simp_all) (by simp; omega), hF3.cell (by simp_all) (by simp; omega)⟩))
   (first
     | (go_at_call 197; refine HC1.out.mono ?_; rintro e w3 ⟨rfl, hL3, hF3⟩))
 have hpf3 : Blk w3 pf _ _ := hF3.blk ((Fr.refl [] _).drew.blk HF2.out.2.1 (by simp)) (by have N := HN.out; simp; omega)
 have hbx3 : Blk w3 w.heap.size _ _ := hF3.blk ((Fr.refl [] _).drew.blk HF2.out.2.2 (by simp)) (by simp; omega)
 have hF3' : Fr [pl, g] w w3 := (HF2.out.1.drew).trans' hF3
 have hL3' : LM w3.drew pl g (S + V) (addE (TE S G T) m (S + ma)) (setKey (S + V) key m y) := LG.fr hL3 (Fr.refl [] _).drew (by simp) (by simp)
 have HC2 := Lib.hid (link_ok' hL3' (a := m) (b := S + mz) (by omega) (by omega) (by omega) (E2.out hL3'.frs) ((S : Int) + mz) (by omega))
 have d1 := hpf3.cell 1
 have d2 := hpf3.cell 2
 have y1 := hbx3.cell 1
 simp only [List.getElem?_cons_zero, List.getElem?_cons_succ] at d1 d2 y1
 have HF3 := Lib.hid (And.intro hF3' (And.intro hpf3 hbx3))
 clear hF3' hpf3 hbx3 hF3 hL3 hL3' HC1
 go_wp2
 go_region_held3 (fun w' => w'.cell? ⟨pf, 1, none⟩ = some (.int .i64 S) ∧ w'.cell? ⟨pf, 2, none⟩ = some (fptr pl) ∧ w'.cell? ⟨w.heap.size, 1, none⟩ = some (.int .i64 mz))
   (first
     | go_keep
     | (have N := HN.out; exact ⟨hF4.cell (by simp_all) (by simp; omega), hF4.cell (by simp_all) (by simp; omega), hF4.cell (by simp_all) (by simp; omega)⟩))
   (first
     | (go_at_call 197; refine HC2.out.mono ?_; rintro e w4 ⟨rfl, hL4, hF4⟩))
 have hpf4 : Blk w4 pf _ _ := hF4.blk ((Fr.refl [] _).drew.blk HF3.out.2.1 (by simp)) (by have N := HN.out; simp; omega)
 have hbx4 : Blk w4 w.heap.size _ _ := hF4.blk ((Fr.refl [] _).drew.blk HF3.out.2.2 (by simp)) (by simp; omega)
 have hF4' : Fr [pl, g] w w4 := (HF3.out.1.drew).trans' hF4
 rw [te_add hg] at hL4
 have y3 := hbx4.cell 3
 have z3 := hbx4.frozen 3
 simp only [List.getElem?_cons_zero, List.getElem?_cons_succ] at y3
 have hbx5 := hbx4.set 3 (.bool true)
 have hpf5 := hpf4.other ⟨w.heap.size, 3, none⟩ (.bool true) (by show pf ≠ w.heap.size; omega)
 have HL4 := Lib.hid (And.intro hL4 hF4')
 have HX5 := Lib.hid (And.intro hpf5 hbx5)
 clear hL4 hF4' hpf4 hbx4 hpf5 hbx5 hF4 HC2 d1 d2 y1
 go_wp2
 have HS5 := Lib.hid (show Fr [w.heap.size] w4 (w4.setCell ⟨w.heap.size, 3, none⟩ (.bool true)) from (Fr.refl _ _).setCell _ _ (.inl (by simp)))
 generalize w4.setCell ⟨w.heap.size, 3, none⟩ (.bool true) = w5 at *
 clear y3 z3
 have hI5 : IMap Tryz.prog 3 .i64 okA w5 mb (mapG G T) n := H.out.edges.same (by
   rw [HS5.out.keep mb (by have := HL4.out.2.size; omega) (by simp; omega), HL4.out.2.keep mb (by omega) (by have N := HN.out; simp; omega)])
 have f4 := HX5.out.1.cell 4
 have y0 := HX5.out.2.cell 0
 have y1 := HX5.out.2.cell 1
 have y2 := HX5.out.2.cell 2
 have y3 := HX5.out.2.cell 3
 simp only [List.set_cons_succ, List.set_cons_zero, List.getElem?_cons_zero, List.getElem?_cons_succ] at f4 y0 y1 y2 y3
 have HI5 := Lib.hid hI5; clear hI5
 refine region_one 6 (fun w' => IMap Tryz.prog 3 .i64 okA w' mb (mapG G (fun t => T t ∨ t = m)) n ∧ Fr [mb] w5 w') (by kernel_rfl) (by kernel_rfl) (by kernel_rfl) ?_
 iterate 6 (refine gWalk_pre (by decide) (fun K hK => ?_); go_simp; refine hK _ ?_; clear hK K)
 refine gWalk_write rfl undef (fun w' hw' => ?_) ?_
 {
 obtain ⟨nq, rfl⟩ := hw'
 obtain ⟨w6, hrun, hI6, hF6⟩ := (HI5.out.same (w' := w5.drewN nq) rfl).put (t := 123) (e := 128) Tryz.underlying3 Tryz.underlying123 (by rw [H.out.cn]; unfold maxLen; have := cntT_le S (fun s => (G s).isSome = true); omega) (wf_nat (s := m) (by omega)) (v := .agg #[.int .i64 ma, .int .i64 mz, .int .i64 y, .bool true]) rfl
 rw [mapG_nat, hg, mapG_put (T' := fun t => T t ∨ t = m) hg (by simp [edV]) (fun t ht => by simp [ht])] at hI6
 go_simp
 exact ⟨hI6, (((Fr.refl [mb] w5).drewN nq)).trans' hF6⟩
 }
 refine gWalk_nil ?_
 rintro w6 ⟨hI6, hF6⟩
 have hpf6 := hF6.blk HX5.out.1 (by have N := HN.out; simp; omega)
 generalize hz : cntT S T = z at *
 have f5 : w6.cell? ⟨pf, 5, none⟩ = some (.int .i64 (z : Int)) := hpf6.cell 5
 have q5 := hpf6.frozen 5
 have hw5 : IntKind.i64.wrap ((z : Int) + 1) = (z : Int) + 1 := IntWalk.i64_in _ (by omega)
 have hpf7 := hpf6.set 5 (.int .i64 ((z : Int) + 1))
 have HP7 := Lib.hid hpf7
 have HI6 := Lib.hid (And.intro hI6 hF6)
 have HZ := Lib.hid (And.intro hz hcT)
 clear hpf6 hpf7 hI6 hF6 hz hcT f4 y0 y1 y2 y3
 go_wp2
 go_end0
 have hF7 : Fr [pf] w6 (w6.setCell ⟨pf, 5, none⟩ (.int .i64 ((z : Int) + 1))) := (Fr.refl _ _).setCell _ _ (.inl (by simp))
 have N := HN.out
 have s4 := HL4.out.2.size
 have hF47 : Fr [w.heap.size, mb, pf] w4 (w6.setCell ⟨pf, 5, none⟩ (.int .i64 ((z : Int) + 1))) :=
   ((HS5.out.mono (fun q hq => .inl (by simp at hq ⊢; exact .inl hq))).trans' (HI6.out.2.mono (fun q hq => .inl (by simp at hq ⊢; exact .inr (.inl hq))))).trans' (hF7.mono (fun q hq => .inl (by simp at hq ⊢; exact .inr (.inr hq))))
 refine ⟨rfl, ⟨?_, LG.fr HL4.out.1 hF47 (by simp; omega) (by simp; omega), HI6.out.1.same (hF7.keep mb HI6.out.1.lt (by simp; omega)), H.out.gw, ⟨fun t a b x h1 h2 => ?_, fun v hv => ?_⟩, H.out.cn, H.out.leS, H.out.leV, H.out.ne1, H.out.ne2, H.out.ne3, H.out.ne4, H.out.ne5⟩,
   (HL4.out.2.mono (fun q hq => .inl (by simp at hq ⊢; omega))).trans hF47 (fun q hq => by simp at hq ⊢; omega)⟩
 {
 have e8 := HZ.out.2
 rw [e8]
 exact HP7.out
 }
 {
 rcases h2 with h2 | rfl
 {
 rw [setKey_other _ _ (by rintro rfl; exact ht h2)]
 exact H.out.keys.slot t a b x h1 h2
 }
 {
 rw [setKey_same (by omega)]
 rw [hg] at h1; simp only [Option.some.injEq, Prod.mk.injEq] at h1
 exact h1.2.2
 }
 }
 {
 rw [setKey_other _ _ (by omega)]
 exact H.out.keys.vert v hv
 }
end
end Go.Proofs.YtgmnemndjjmgkaaGreat

/- forest: Add. -/
namespace Go.Proofs.YtgmnemndjjmgkaaGreat
open Go.RowKit Classical
set_option maxRecDepth 10000
set_option maxHeartbeats 1600000
def FAt (w : World) (pf S V : Nat) (G : EMap) (L : List Nat) : Prop :=
  ∃ pl g ph mb l key n, FB w pf pl g ph mb S V G (isTree G) key n ∧ HeapAt w ph S (qOf G) n l ∧ (∀ b ∈ l, b ≠ pf ∧ b ≠ pl ∧ b ≠ g ∧ b ≠ mb) ∧ L = pf :: pl :: g :: mb :: l
noncomputable def addCode (S V : Nat) (G : EMap) (slot a b : Int) : Int :=
  if inV S slot = true ∧ inV V a = true ∧ inV V b = true then (if a = b then 9 else if (G slot.toNat).isSome = true then 6 else 0) else 3
noncomputable def addG (S V : Nat) (G : EMap) (slot a b x : Int) : EMap := if addCode S V G slot a b = 0 then updG G slot.toNat (some (a.toNat, b.toNat, x)) else G
section
variable {w w' : World} {pf pl g ph mb S V n : Nat} {G : EMap} {T T' : Nat → Prop} {key : Nat → Int} {l L : List Nat}
theorem FAt.lt (h : FAt w pf S V G L) : ∀ b ∈ L, b < w.heap.size := by
 obtain ⟨pl, g, ph, mb, l, key, n, h1, h2, h3, rfl⟩ := h
 have := h1.lt
 intro b hb
 simp only [List.mem_cons] at hb
 rcases hb with rfl | rfl | rfl | rfl | hb
 · exact this.1
 · exact this.2.1
 · exact this.2.2.1
 · exact this.2.2.2
 · exact h2.lt b hb
theorem FAt.fr {X : List Nat} (h : FAt w pf S V G L) (hf : Fr X w w') (hx : ∀ b ∈ L, b ∉ X) : FAt w' pf S V G L := by
 obtain ⟨pl, g, ph, mb, l, key, n, h1, h2, h3, rfl⟩ := h
 exact ⟨pl, g, ph, mb, l, key, n, h1.fr hf (hx _ (by simp)) (hx _ (by simp)) (hx _ (by simp)) (hx _ (by simp)), h2.fr hf (fun b hb => hx b (by simp [hb])), h3, rfl⟩
theorem FB.congrT (h : FB w pf pl g ph mb S V G T key n) (hT : ∀ t, T t ↔ T' t) : FB w pf pl g ph mb S V G T' key n := by
 have : T = T' := funext fun t => propext (hT t)
 rw [← this]; exact h
theorem mapG_new {s : Nat} {e : Nat × Nat × Int} (ht : ¬ T s) : updM (mapG G T) s (some (edV e false)) = mapG (updG G s (some e)) T := by
 funext k
 by_cases hk : k = (s : Int)
 · subst hk; rw [updM_same, mapG_nat, updG_same]; simp [ht]
 {
 rw [updM_other hk]
 unfold mapG
 by_cases h0 : 0 ≤ k
 · rw [updG_other (by omega)]
 · simp only [h0, if_false]
 }
theorem qOf_put {s : Nat} {e : Nat × Nat × Int} : updQ (qOf G) s (some e.2.2) = qOf (updG G s (some e)) := by
 funext k
 by_cases hk : k = s
 · subst hk; rw [updQ_same]; simp [qOf, updG_same]
 · rw [updQ_other hk]; simp [qOf, updG_other hk]
theorem cnt_put {s : Nat} {e : Nat × Nat × Int} (hs : s < S) (h0 : G s = none) : cntT S (fun t => (G t).isSome = true) + 1 = cntT S (fun t => (updG G s (some e) t).isSome = true) :=
  cntT_one hs (by simp [updG_same]) (by simp [h0]) (fun x hx => by rw [updG_other hx])
theorem FB.new (h : FB w pf pl g ph mb S V G T key n) {s a b : Nat} {x : Int} (h0 : G s = none) (ht : ¬ T s) (hs : s < S) (ha : a < V) (hb : b < V) (hab : a ≠ b) (hx : -9223372036854775808 ≤ x ∧ x ≤ 9223372036854775807)
    {X : List Nat} (hf : Fr X w w') (h1 : pf ∉ X) (h2 : pl ∉ X) (h3 : g ∉ X) (hI : IMap Tryz.prog 3 .i64 okA w' mb (mapG (updG G s (some (a, b, x))) T) (n + 1)) :
    FB w' pf pl g ph mb S V (updG G s (some (a, b, x))) T key (n + 1) := by
 have e : TE S (updG G s (some (a, b, x))) T = TE S G T := te_congr (fun _ => Iff.rfl) (fun t ht' => by rw [updG_other]; rintro rfl; exact ht ht')
 refine ⟨hf.blk h.hd h1, ?_, hI, h.gw.put hs ha hb hab hx, ⟨fun t c d y h4 h5 => ?_, h.keys.vert⟩, ?_, h.leS, h.leV, h.ne1, h.ne2, h.ne3, h.ne4, h.ne5⟩
 · rw [e]; exact h.lct.fr hf h2 h3
 {
 rw [updG_other (by rintro rfl; exact ht h5)] at h4
 exact h.keys.slot t c d y h4 h5
 }
 · rw [h.cn, cnt_put hs h0]
end
section
variable {w w' : World} {pf pl g ph mb S V n : Nat} {G : EMap} {T T' : Nat → Prop} {key : Nat → Int} {l L : List Nat}
theorem fadd_bad (h : FB w pf pl g ph mb S V G T key n) (slot a b x : Int) (hn : ¬ (inV S slot = true ∧ inV V a = true ∧ inV V b = true)) :
    Calls Tryz.prog 114 #[fptr pf, .int .i64 slot, .int .i64 a, .int .i64 b, .int .i64 x] w fun e w' => e = .returned (.int .i64 3) ∧ w' = w := by
 have c1 := h.hd.cell 1
 simp only [List.getElem?_cons_zero, List.getElem?_cons_succ] at c1
 have HV := Lib.hid (fvalid_w h)
 by_cases s1 : 0 ≤ slot
 {
 by_cases s2 : slot < S
 {
 have s3 : decide (slot ≥ (S : Int)) = false := decide_eq_false (by omega)
 cases ha : inV V a with
 | false => {
 have HA := fhas_w h a
 rw [ha] at HA
 have HA := Lib.hid HA
 clear h hn
 go_enter Tryz.func114, Tryz.ntmps114
 go_wp2_with fail
 refine HV.out.mono ?_
 rintro _ w1 ⟨rfl, rfl⟩
 go_wp2_with fail
 refine HA.out.mono ?_
 rintro _ w1 ⟨rfl, rfl⟩
 go_wp2
 go_ret
 exact ⟨rfl, rfl⟩
 }
 | true => {
 have hb : inV V b = false := by {
 cases hb : inV V b with
 | false => rfl
 | true => exact absurd ⟨by simp [inV, s1, s2], ha, hb⟩ hn
 }
 have HA := fhas_w h a
 rw [ha] at HA
 have HA := Lib.hid HA
 have HB := fhas_w h b
 rw [hb] at HB
 have HB := Lib.hid HB
 clear h hn
 go_enter Tryz.func114, Tryz.ntmps114
 go_wp2_with fail
 refine HV.out.mono ?_
 rintro _ w1 ⟨rfl, rfl⟩
 go_wp2_with fail
 refine HA.out.mono ?_
 rintro _ w1 ⟨rfl, rfl⟩
 go_wp2_with fail
 refine HB.out.mono ?_
 rintro _ w1 ⟨rfl, rfl⟩
 go_wp2
 go_ret
 exact ⟨rfl, rfl⟩
 }
 }
 {
 have s3 : decide (slot ≥ (S : Int)) = true := decide_eq_true (by omega)
 have s4 : (S : Int) ≤ slot := by omega
 clear h hn
 go_enter Tryz.func114, Tryz.ntmps114
 go_wp2_with fail
 refine HV.out.mono ?_
 rintro _ w1 ⟨rfl, rfl⟩
 go_wp2
 go_ret
 exact ⟨rfl, rfl⟩
 }
 }
 {
 have s3 : slot < 0 := by omega
 clear h hn
 go_enter Tryz.func114, Tryz.ntmps114
 go_wp2_with fail
 refine HV.out.mono ?_
 rintro _ w1 ⟨rfl, rfl⟩
 go_wp2
 go_ret
 exact ⟨rfl, rfl⟩
 }
theorem fadd_no (h : FB w pf pl g ph mb S V G T key n) {s a b : Nat} (hs : s < S) (ha : a < V) (hb : b < V) (x : Int) (hn : a = b ∨ (a ≠ b ∧ (G s).isSome = true)) :
    Calls Tryz.prog 114 #[fptr pf, .int .i64 s, .int .i64 a, .int .i64 b, .int .i64 x] w fun e w' => e = .returned (.int .i64 (if a = b then 9 else 6)) ∧ Fr [] w w' := by
 have c1 := h.hd.cell 1
 have c4 := h.hd.cell 4
 simp only [List.getElem?_cons_zero, List.getElem?_cons_succ] at c1 c4
 have HV := Lib.hid (fvalid_w h)
 have HA := fhas_w h a
 rw [inV_lt ha] at HA
 have HA := Lib.hid HA
 have HB := fhas_w h b
 rw [inV_lt hb] at HB
 have HB := Lib.hid HB
 have s1 : (0 : Int) ≤ s := by omega
 have s2 : (s : Int) < S := by omega
 have s3 : decide (S ≤ s) = false := decide_eq_false (by omega)
 by_cases hab : a = b
 {
 rw [if_pos hab]
 subst hab
 clear h hn
 go_enter Tryz.func114, Tryz.ntmps114
 go_wp2_with fail
 refine HV.out.mono ?_
 rintro _ w1 ⟨rfl, rfl⟩
 go_wp2_with fail
 refine HA.out.mono ?_
 rintro _ w1 ⟨rfl, rfl⟩
 go_wp2_with fail
 refine HB.out.mono ?_
 rintro _ w1 ⟨rfl, rfl⟩
 go_wp2
 go_ret
 exact ⟨rfl, Fr.refl _ _⟩
 }
 {
 rw [if_neg hab]
 obtain ⟨_, hsome⟩ := hn.resolve_left hab
 have t1 : ((a : Int) == (b : Int)) = false := by simp; omega
 have hl := h.edges.run_ok (t := 123) (e := 128) (z := edZ) Tryz.underlying3 Tryz.underlying123 (by kernel_rfl) rfl (wf_nat (s := s) (by have := h.leS; omega))
 obtain ⟨⟨e1, e2, e3⟩, he⟩ := Option.isSome_iff_exists.1 hsome
 rw [mapG_nat, he] at hl
 simp only [Option.map_some, Option.getD_some, edV, Option.isSome_some] at hl
 generalize decide (T s) = tb at *
 clear h hn
 go_enter Tryz.func114, Tryz.ntmps114
 go_wp2_with fail
 refine HV.out.mono ?_
 rintro _ w1 ⟨rfl, rfl⟩
 go_wp2_with fail
 refine HA.out.mono ?_
 rintro _ w1 ⟨rfl, rfl⟩
 go_wp2_with fail
 refine HB.out.mono ?_
 rintro _ w1 ⟨rfl, rfl⟩
 go_wp2
 go_ret
 exact ⟨rfl, (Fr.refl _ _).alloc _⟩
 }
end
end Go.Proofs.YtgmnemndjjmgkaaGreat

namespace Go.Proofs.YtgmnemndjjmgkaaGreat
open Go.RowKit Classical
set_option maxRecDepth 10000
set_option maxHeartbeats 1600000
section
variable {w w' : World} {pf pl g ph mb S V n : Nat} {G : EMap} {T : Nat → Prop} {key : Nat → Int}
theorem FB.asked (h : FB w pf pl g ph mb S V G T key n) (hL : LM w' pl g (S + V) (TE S G T) key) (hF : Fr [g] w w') : FB w' pf pl g ph mb S V G T key n :=
  ⟨hF.blk h.hd (by have := h.ne2; simp; exact this), hL, h.edges.same (hF.keep mb h.edges.lt (by have := h.ne5; simp; exact fun e => this e.symm)), h.gw, h.keys, h.cn, h.leS, h.leV, h.ne1, h.ne2, h.ne3, h.ne4, h.ne5⟩
theorem te_new {s : Nat} (ht : ¬ T s) (e : Option (Nat × Nat × Int)) : TE S (updG G s e) T = TE S G T :=
  te_congr (fun _ => Iff.rfl) (fun t ht' => by rw [updG_other]; rintro rfl; exact ht ht')
theorem cx_upd {s a b : Nat} (ht : ¬ T s) (e : Option (Nat × Nat × Int)) : Cx (updG G s e) T a b ↔ Cx G T a b := by
 constructor
 {
 intro h
 exact h.mono' fun u f h1 h2 => ⟨h1, by rw [updG_other (by rintro rfl; exact ht h1)] at h2; exact h2⟩
 }
 {
 intro h
 exact h.mono' fun u f h1 h2 => ⟨h1, by rw [updG_other (by rintro rfl; exact ht h1)]; exact h2⟩
 }
end
def MinSays (n : Nat) (E : Nat → Nat → Prop) (key : Nat → Int) (a b r : Int) (ok : Bool) : Prop :=
  (ok = false ∧ r = 0 ∧ ¬ ConnI n E a b) ∨ (ok = true ∧ ∃ (v u : Nat) (p : List Nat) (m : Nat), a = v ∧ b = u ∧ v < n ∧ u < n ∧ IsPath E v u p ∧ (∀ x ∈ p, x < n) ∧ FirstOf key p m ∧ r = m)
theorem min_d {w : World} {pf g n : Nat} {E : Nat → Nat → Prop} {key : Nat → Int} {ed : Int} (h : LG w pf g n E key ed) (a b : Int) : Calls Tryz.prog 82 #[.pointer (some ⟨pf, 0, none⟩), .int .i64 a, .int .i64 b] w fun e w' => ∃ r ok, e = .returned (.tuple #[.int .i64 r, .bool ok]) ∧ MinSays n E key a b r ok ∧ LG w' pf g n E key ed ∧ Fr [g] w w' := by
 refine (min_w h a b).mono ?_
 rintro e w' ⟨⟨hn, rfl⟩ | ⟨v, u, p, m, h1, h2, h3, h4, h5, h6, h7, rfl⟩, hL, hF⟩
 · exact ⟨0, false, rfl, .inl ⟨rfl, rfl, hn⟩, hL, hF⟩
 · exact ⟨m, true, rfl, .inr ⟨rfl, v, u, p, m, h1, h2, h3, h4, h5, h6, h7, rfl⟩, hL, hF⟩
section
variable {w w' : World} {pf S V : Nat} {G : EMap} {L : List Nat}
theorem fadd_yes (h : FAt w pf S V G L) {s a b : Nat} (hs : s < S) (ha : a < V) (hb : b < V) (hab : a ≠ b) (h0 : G s = none) (x : Int) (hx : -9223372036854775808 ≤ x ∧ x ≤ 9223372036854775807) :
    Calls Tryz.prog 114 #[fptr pf, .int .i64 s, .int .i64 a, .int .i64 b, .int .i64 x] w fun e w' => e = .returned (.int .i64 0) ∧ ∃ L', FAt w' pf S V (updG G s (some (a, b, x))) L' ∧ Fr L w w' ∧ ∀ q ∈ L', q ∈ L ∨ w.heap.size ≤ q := by
  obtain ⟨pl, g, ph, mb, l, key, n, h1, hH, hD, rfl⟩ := h
  have ht : ¬ isTree G s := by rintro ⟨_, _, _, e, _⟩; rw [h0] at e; cases e
  have hlt := h1.lt
  have hllt := hH.lt
  have hS := h1.leS
  have hV := h1.leV
  have c1 := h1.hd.cell 1
  have c4 := h1.hd.cell 4
  have c3 := (h1.hd.alloc (.cells #[.int .i64 0, .int .i64 0, .int .i64 0, .bool false] 128)).cell 3
  simp only [List.getElem?_cons_zero, List.getElem?_cons_succ] at c1 c3 c4
  have HV := Lib.hid (fvalid_w h1)
  have HA := fhas_w h1 a
  rw [inV_lt ha] at HA
  have HA := Lib.hid HA
  have HB := fhas_w h1 b
  rw [inV_lt hb] at HB
  have HB := Lib.hid HB
  have s1 : (0 : Int) ≤ s := by omega
  have s2 : (s : Int) < S := by omega
  have s3 : decide (S ≤ s) = false := decide_eq_false (by omega)
  have t1 : ((a : Int) == (b : Int)) = false := by simp; omega
  have hl := h1.edges.run_ok (t := 123) (e := 128) (z := edZ) Tryz.underlying3 Tryz.underlying123 (by kernel_rfl) rfl (wf_nat (s := s) (by omega))
  rw [mapG_nat, h0] at hl
  simp only [Option.map_none, Option.getD_none, edZ, Option.isSome_none] at hl
  have hf0 : Fr [] w (w.alloc (.cells #[.int .i64 0, .int .i64 0, .int .i64 0, .bool false] 128)) := (Fr.refl _ _).alloc _
  have HP := Lib.hid (hpush_w (hH.fr hf0 (by simp)) hs (by simp [qOf, h0]) x)
  have H := Lib.hid h1
  have HH := Lib.hid (And.intro hD (And.intro hllt hlt))
  have HF0 := Lib.hid hf0
  clear h1 hH hD hllt hf0
  go_enter Tryz.func114, Tryz.ntmps114
  go_wp2_with fail
  refine HV.out.mono ?_
  rintro _ w ⟨rfl, rfl⟩
  go_wp2_with fail
  refine HA.out.mono ?_
  rintro _ w ⟨rfl, rfl⟩
  go_wp2_with fail
  refine HB.out.mono ?_
  rintro _ w ⟨rfl, rfl⟩
  go_wp2_with fail
  refine HP.out.mono ?_
  rintro _ w2 ⟨rfl, l', hH2, hF2, hN2⟩
  have hpf2 : Blk w2 pf _ _ := hF2.blk (HF0.out.blk H.out.hd (by simp)) (fun hm => (HH.out.1 _ hm).1 rfl)
  have hI2 : IMap Tryz.prog 3 .i64 okA w2 mb (mapG G (isTree G)) n := H.out.edges.same (by
    rw [hF2.keep mb (by have := HF0.out.size; omega) (fun hm => (HH.out.1 _ hm).2.2.2 rfl), HF0.out.keep mb (by omega) (by simp)])
  have d4 := hpf2.cell 4
  simp only [List.getElem?_cons_zero, List.getElem?_cons_succ] at d4
  have HF2 := Lib.hid (And.intro hH2 (And.intro hF2 (And.intro hN2 hpf2)))
  have HI2 := Lib.hid hI2
  clear hH2 hF2 hN2 hpf2 hI2 c1 c3 c4 hl HP
  go_wp2_with (refine wpList_imap_put rfl _ _ _ _ rfl HI2.out Tryz.underlying3 Tryz.underlying123 (by rw [H.out.cn]; unfold maxLen; have := cntT_le S (fun s => (G s).isSome = true); omega) rfl (s : Int) rfl (wf_nat (s := s) (by omega)) (.agg #[.int .i64 a, .int .i64 b, .int .i64 x, .bool false]) rfl rfl ?_; intro w3 hI3 hF3)
  rw [mapG_nat, h0] at hI3
  simp only [Option.map_none, Option.isSome_none, Bool.false_eq_true, if_false] at hI3
  have hI3' : IMap Tryz.prog 3 .i64 okA w3 mb (mapG (updG G s (some (a, b, x))) (isTree G)) (n + 1) := by rw [← mapG_new ht]; exact hI3
  have hF13 : Fr (mb :: l) w w3 := ((HF0.out.mono (S' := mb :: l) (by simp)).trans' (HF2.out.2.1.mono (fun q hq => .inl (by simp [hq])))).trans' (hF3.mono (fun q hq => .inl (by simp at hq; simp [hq])))
  have hx1 : pf ∉ mb :: l := by simp only [List.mem_cons, not_or]; exact ⟨H.out.ne3, fun hm => (HH.out.1 _ hm).1 rfl⟩
  have hx2 : pl ∉ mb :: l := by simp only [List.mem_cons, not_or]; exact ⟨H.out.ne4, fun hm => (HH.out.1 _ hm).2.1 rfl⟩
  have hx3 : g ∉ mb :: l := by simp only [List.mem_cons, not_or]; exact ⟨H.out.ne5, fun hm => (HH.out.1 _ hm).2.2.1 rfl⟩
  have hB3 := H.out.new h0 ht hs ha hb hab hx hF13 hx1 hx2 hx3 hI3'
  have hL3 : LM w3 pl g (S + V) (TE S G (isTree G)) key := H.out.lct.fr hF13 hx2 hx3
  have hH3 : HeapAt w3 ph S (qOf (updG G s (some (a, b, x)))) (n + 1) l' := by
    rw [← qOf_put (e := (a, b, x))]
    exact HF2.out.1.fr hF3 (fun q hq hm => by
      simp at hm; subst hm
      rcases HF2.out.2.2.1 _ hq with e | e
      · exact (HH.out.1 _ e).2.2.2 rfl
      · simp at e; omega)
  have e1 := hB3.hd.cell 1
  have e2 := hB3.hd.cell 2
  simp only [List.getElem?_cons_zero, List.getElem?_cons_succ] at e1 e2
  have hw1 : IntKind.i64.wrap ((S : Int) + a) = (S : Int) + a := IntWalk.i64_in _ (by omega)
  have hw2 : IntKind.i64.wrap ((S : Int) + b) = (S : Int) + b := IntWalk.i64_in _ (by omega)
  have HM := Lib.hid (min_d (show LG w3.drew pl g (S + V) (TE S G (isTree G)) key _ from LG.fr hL3 (Fr.refl [] _).drew (by simp) (by simp)) ((S : Int) + a) ((S : Int) + b))
  have H3 := Lib.hid (And.intro hB3 (And.intro hH3 hF13))
  clear hI3 hI3' hF3 hF13 hB3 hL3 hH3 d4
  have HN := Lib.hid (And.intro H.out.ne1 (And.intro H.out.ne2 hlt))
  go_region_held3 (fun w' => w'.cell? ⟨pf, 1, none⟩ = some (.int .i64 S) ∧ w'.cell? ⟨pf, 2, none⟩ = some (fptr pl))
    (first
      | go_keep
      | (have N := HN.out; exact ⟨hF4.cell (by simp_all) (by simp; omega), hF4.cell (by simp_all) (by simp; omega)⟩))
    (first
      | (go_at_call 82; refine HM.out.mono ?_; rintro e w4 ⟨r, ok, rfl, hsay, hL4, hF4⟩))
  have hB4 := H3.out.1.asked (show LM w4 pl g (S + V) (TE S (updG G s (some (a, b, x))) (isTree G)) key by rw [te_new ht]; exact hL4) (((Fr.refl [g] w3).drew).trans' hF4)
  have hlen4 := hF4.size
  have hH4 := H3.out.2.1.fr (((Fr.refl [g] w3).drew).trans' hF4) (fun q hq hm => by
    simp at hm; subst hm
    rcases HF2.out.2.2.1 _ hq with e | e
    · exact (HH.out.1 _ e).2.2.1 rfl
    · simp at e; omega)
  have hF04 : Fr (pf :: pl :: g :: mb :: l) w w4 := (H3.out.2.2.mono (S' := pf :: pl :: g :: mb :: l) (fun q hq => .inl (by simp at hq ⊢; grind))).trans' ((((Fr.refl [g] w3).drew).trans' hF4).mono (fun q hq => .inl (by simp at hq ⊢; grind)))
  have hdis : ∀ q ∈ l', q ≠ pf ∧ q ≠ pl ∧ q ≠ g ∧ q ≠ mb := by
    intro q hq
    rcases HF2.out.2.2.1 _ hq with e | e
    · exact HH.out.1 _ e
    · simp at e; omega
  have hnew : ∀ q ∈ pf :: pl :: g :: mb :: l', q ∈ pf :: pl :: g :: mb :: l ∨ w.heap.size ≤ q := by
    intro q hq
    simp only [List.mem_cons] at hq ⊢
    rcases hq with e | e | e | e | e
    · exact .inl (.inl e)
    · exact .inl (.inr (.inl e))
    · exact .inl (.inr (.inr (.inl e)))
    · exact .inl (.inr (.inr (.inr (.inl e))))
    · rcases HF2.out.2.2.1 _ e with e | e
      · exact .inl (.inr (.inr (.inr (.inr e))))
      · simp at e; exact .inr (by omega)
  have H4 := Lib.hid (And.intro hB4 (And.intro hH4 (And.intro hF04 (And.intro hdis hnew))))
  have HS := Lib.hid (And.intro hsay hL4)
  clear hB4 hH4 hF04 hdis hnew hsay hL4 hF4 HM e1 e2
  cases ok with
  | false =>
    have hc : ¬ Cx G (isTree G) a b := by
      rcases HS.out.1 with ⟨_, _, hn⟩ | ⟨e, _⟩
      · intro hc
        exact hn ⟨by simp [inV]; omega, by simp [inV]; omega, by
          rw [show ((S : Int) + a).toNat = S + a by omega, show ((S : Int) + b).toNat = S + b by omega]
          exact te_conn (LG.frs HS.out.2) hc⟩
      · cases e
    have HFa := Lib.hid (fasten_w H4.out.1 (updG_same _ _ _) ht (fun e => hc ((cx_upd ht _).1 e)))
    have HC := Lib.hid hc; clear hc
    go_wp2_with fail
    refine HFa.out.mono ?_
    rintro _ w5 ⟨rfl, hB5, hF5⟩
    have H5 := Lib.hid (And.intro hB5 hF5); clear hB5 hF5
    go_wp2
    go_ret
    exact ⟨rfl, _, ⟨pl, g, ph, mb, l', _, n + 1, H5.out.1.congrT (fun t => (add_new H.out.gw.slot h0 HC.out t).symm), H4.out.2.1.fr H5.out.2 (fun q hq hm => by have := H4.out.2.2.2.1 q hq; simp at hm; grind), H4.out.2.2.2.1, rfl⟩, H4.out.2.2.1.trans' (H5.out.2.mono (fun q hq => .inl (by simp at hq ⊢; grind))), H4.out.2.2.2.2⟩
  | true =>
    obtain ⟨m, ma, mz, y, hr, hms, hgm, htm, hcx, hcut⟩ : ∃ (m ma mz : Nat) (y : Int), r = m ∧ m < S ∧ G m = some (ma, mz, y) ∧ isTree G m ∧ Cx G (fun t => isTree G t ∧ (t = m ∨ Aft G m y t)) a b ∧ ¬ Cx G (fun t => isTree G t ∧ t ≠ m) a b := by
      rcases HS.out.1 with ⟨e, _⟩ | ⟨_, v, u, p, m, e1, e2, h3, h4, hp, hin, hf, hr⟩
      · cases e
      · obtain rfl : v = S + a := by omega
        obtain rfl : u = S + b := by omega
        obtain ⟨ma, mz, y, h5, h6, h7, h8⟩ := first_slot H.out.gw H.out.keys hp hab hf hin
        exact ⟨m, ma, mz, y, hr, h5, h6, h7, h8, te_cut H.out.frs (te_sub H.out.frs (fun _ h => h.1)) hp hf.1 h5⟩
    subst hr
    have hmne : m ≠ s := by rintro rfl; rw [h0] at hgm; cases hgm
    have hgm' : updG G s (some (a, b, x)) m = some (ma, mz, y) := by rw [updG_other hmne]; exact hgm
    have hl4 := H4.out.1.edges.run_get (t := 123) (e := 128) (z := edZ) Tryz.underlying3 Tryz.underlying123 (by kernel_rfl) rfl (wf_nat (s := m) (by omega))
    rw [mapG_nat, hgm'] at hl4
    simp only [Option.map_some, Option.getD_some, htm, decide_true, edV] at hl4
    have c4 := H4.out.1.hd.cell 4
    simp only [List.getElem?_cons_zero, List.getElem?_cons_succ] at c4
    have HG := Lib.hid (And.intro hgm (And.intro htm (And.intro hcx (And.intro hcut hgm'))))
    clear hgm htm hcx hcut hgm'
    have hf45 : Fr [] w4 (w4.alloc (.cells #[.int .i64 ma, .int .i64 mz, .int .i64 y, .bool true] 128)) := (Fr.refl _ _).alloc _
    have HF45 := Lib.hid hf45; clear hf45
    have HLo := Lib.hid (loosen_w (H4.out.1.fr0 HF45.out) HG.out.2.2.2.2 HG.out.2.1)
    by_cases hb : bef x s y m
    · have HB' := Lib.hid hb
      have late : ∀ t, isTree G t ↔ isTree (updG G s (some (a, b, x))) t := fun t => (add_late h0 (HG.out.2.2.1.mono fun t _ ht _ => by
        rcases ht.2 with rfl | ⟨c, d, z, h1, h2⟩
        · exact ⟨_, _, _, HG.out.1, HB'.out⟩
        · exact ⟨c, d, z, h1, bef_trans HB'.out h2⟩) t).symm
      have HE := Lib.hid (show ∃ L', FAt (w4.alloc (.cells #[.int .i64 ma, .int .i64 mz, .int .i64 y, .bool true] 128)) pf S V (updG G s (some (a, b, x))) L' ∧ Fr (pf :: pl :: g :: mb :: l) w (w4.alloc (.cells #[.int .i64 ma, .int .i64 mz, .int .i64 y, .bool true] 128)) ∧ ∀ q ∈ L', q ∈ pf :: pl :: g :: mb :: l ∨ w.heap.size ≤ q from
        ⟨_, ⟨pl, g, ph, mb, l', _, n + 1, (H4.out.1.fr0 HF45.out).congrT late, H4.out.2.1.fr HF45.out (by simp), H4.out.2.2.2.1, rfl⟩, H4.out.2.2.1.trans' (HF45.out.mono (by simp)), H4.out.2.2.2.2⟩)
      clear late HLo
      unfold bef at hb
      by_cases h1 : x < y
      · clear hb
        go_wp2_with fail
        go_ret
        exact ⟨rfl, HE.out⟩
      · have h2 : x = y := by omega
        have h3 : s < m := by omega
        subst h2
        clear hb h1
        go_wp2_with fail
        go_ret
        exact ⟨rfl, HE.out⟩
    · have hb' := bef_tri (show s ≠ m from hmne.symm) hb
      have HB' := Lib.hid hb'
      unfold bef at hb hb'
      have swp : ∀ t, (isTree G t ∧ t ≠ m) ∨ t = s ↔ isTree (updG G s (some (a, b, x))) t := fun t => (add_swap H.out.gw.slot h0 HG.out.1 HG.out.2.2.1 HG.out.2.2.2.1 HB'.out t).symm
      have HSw := Lib.hid swp
      have HNC := Lib.hid (show ¬ Cx (updG G s (some (a, b, x))) (fun t => isTree G t ∧ t ≠ m) a b from fun e => HG.out.2.2.2.1 ((cx_upd (fun h => ht h.1) _).1 e))
      have n1 : decide (x < y) = false := decide_eq_false (by omega)
      have n2 : ¬ (x < y) := by omega
      have hfa : Hid (∀ w5 : World, FB w5 pf pl g ph mb S V (updG G s (some (a, b, x))) (fun t => isTree G t ∧ t ≠ m) key (n + 1) → Calls Tryz.prog 161 #[fptr pf, .int .i64 s] w5 fun e w' => e = .returned (.tuple #[]) ∧ FB w' pf pl g ph mb S V (updG G s (some (a, b, x))) (fun t => (isTree G t ∧ t ≠ m) ∨ t = s) (setKey (S + V) key s x) (n + 1) ∧ Fr [pf, pl, g, mb] w5 w') :=
        Lib.hid (fun w5 hB5 => fasten_w hB5 (updG_same _ _ _) (fun h => ht h.1) HNC.out)
      have fin : Hid (∀ w5 w6 : World, Fr [pf, pl, g, mb] (w4.alloc (.cells #[.int .i64 ma, .int .i64 mz, .int .i64 y, .bool true] 128)) w5 → Fr [pf, pl, g, mb] w5 w6 → FB w6 pf pl g ph mb S V (updG G s (some (a, b, x))) (fun t => (isTree G t ∧ t ≠ m) ∨ t = s) (setKey (S + V) key s x) (n + 1) →
          ∃ L', FAt w6 pf S V (updG G s (some (a, b, x))) L' ∧ Fr (pf :: pl :: g :: mb :: l) w w6 ∧ ∀ q ∈ L', q ∈ pf :: pl :: g :: mb :: l ∨ w.heap.size ≤ q) := Lib.hid (fun w5 w6 f5 f6 hB6 => by
        have f46 : Fr [pf, pl, g, mb] w4 w6 := ((HF45.out.mono (by simp)).trans' f5).trans' f6
        exact ⟨_, ⟨pl, g, ph, mb, l', _, n + 1, hB6.congrT HSw.out, H4.out.2.1.fr f46 (fun q hq hm => by have := H4.out.2.2.2.1 q hq; simp at hm; grind), H4.out.2.2.2.1, rfl⟩, H4.out.2.2.1.trans' (f46.mono (fun q hq => .inl (by simp at hq ⊢; grind))), H4.out.2.2.2.2⟩)
      clear swp hb'
      by_cases e : x = y
      · have n3 : decide (s < m) = false := decide_eq_false (by omega)
        subst e
        clear hb
        go_wp2_with fail
        refine HLo.out.mono ?_
        rintro _ w5 ⟨rfl, hB5, hF5⟩
        have HF5 := Lib.hid hF5
        have HFa := Lib.hid (hfa.out _ hB5)
        clear hB5 hF5
        go_wp2_with fail
        refine HFa.out.mono ?_
        rintro _ w6 ⟨rfl, hB6, hF6⟩
        have HF6 := Lib.hid (fin.out w5 w6 HF5.out hF6 hB6)
        clear hB6 hF6
        go_wp2_with fail
        go_ret
        exact ⟨rfl, HF6.out⟩
      · have n3 : (x == y) = false := by simp [e]
        have n4 : (y == x) = false := by simp; omega
        clear hb
        go_wp2_with fail
        refine HLo.out.mono ?_
        rintro _ w5 ⟨rfl, hB5, hF5⟩
        have HF5 := Lib.hid hF5
        have HFa := Lib.hid (hfa.out _ hB5)
        clear hB5 hF5
        go_wp2_with fail
        refine HFa.out.mono ?_
        rintro _ w6 ⟨rfl, hB6, hF6⟩
        have HF6 := Lib.hid (fin.out w5 w6 HF5.out hF6 hB6)
        clear hB6 hF6
        go_wp2_with fail
        go_ret
        exact ⟨rfl, HF6.out⟩
end
end Go.Proofs.YtgmnemndjjmgkaaGreat
