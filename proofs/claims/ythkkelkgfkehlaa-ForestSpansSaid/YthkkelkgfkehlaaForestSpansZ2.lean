/- The statement 'ForestSpans': for every input the call returns true, and each argument reads afterwards as it read before. -/
import Derived.Test.YthkkelkgfkehlaaForestSpansZ1
import Derived.Test.YthkkelkgfkehlaaB1
/- ForestSpans: the forest with rows of Booleans beside it; what is reached. -/
namespace Go.Proofs.Ythkkelkgfkehlaa
open Go.RowKit Classical
set_option maxRecDepth 10000
set_option maxHeartbeats 1600000

/-- A forest, and rows of Booleans in blocks of their own. -/
def LR (W wr : World) (pf S V : Nat) (G : EMap) (R : List (Nat × Nat × (Nat → Bool))) : Prop :=
  ∃ L, FO W wr pf S V G L ∧ (∀ r ∈ R, Blk wr r.1 4 (bRow r.2.1 r.2.2) ∧ W.heap.size ≤ r.1 ∧ r.1 ∉ L) ∧ (R.map fun r => r.1).Nodup
section
variable {W wr w' : World} {pf S V sb n : Nat} {G G' : EMap} {f : Nat → Bool} {R : List (Nat × Nat × (Nat → Bool))}
theorem LR.of (h : LK W wr pf S V G sb f) : LR W wr pf S V G [(sb, S, f)] := by
  obtain ⟨L, h1, h2, h3, h4⟩ := h
  exact ⟨L, h1, fun r hr => by simp at hr; subst hr; exact ⟨h2, h3, h4⟩, by simp⟩
theorem LR.keep (h : LR W wr pf S V G R) (hf : Fr [] wr w') : LR W w' pf S V G R := by
  obtain ⟨L, h1, h2, h3⟩ := h
  exact ⟨L, h1.keep0 hf, fun r hr => ⟨hf.blk (h2 r hr).1 (by simp), (h2 r hr).2⟩, h3⟩
theorem LR.fr (h : LR W wr pf S V G R) : Fr [] W wr := by obtain ⟨L, h1, _⟩ := h; exact h1.fr
theorem LR.gw (h : LR W wr pf S V G R) : GW S V G := by obtain ⟨L, h1, _⟩ := h; exact h1.f.gw.1
theorem LR.get (h : LR W wr pf S V G R) {r : Nat × Nat × (Nat → Bool)} (hr : r ∈ R) : Blk wr r.1 4 (bRow r.2.1 r.2.2) := by obtain ⟨L, _, h2, _⟩ := h; exact (h2 r hr).1
theorem LR.add (h : LR W wr pf S V G R) (hf : Fr [] wr w') (hb : Blk w' sb 4 (bRow n f)) (hs : wr.heap.size ≤ sb) : LR W w' pf S V G ((sb, n, f) :: R) := by
  have hw := h.fr.size
  obtain ⟨L, h1, h2, h3⟩ := h
  refine ⟨L, h1.keep0 hf, fun r hr => ?_, ?_⟩
  · rcases List.mem_cons.1 hr with rfl | hr
    · exact ⟨hb, by show W.heap.size ≤ sb; omega, fun hm => by have := h1.lt _ hm; simp at this; omega⟩
    · exact ⟨hf.blk (h2 r hr).1 (by simp), (h2 r hr).2⟩
  · rw [List.map_cons, List.nodup_cons]
    refine ⟨fun hm => ?_, h3⟩
    obtain ⟨r, hr, e⟩ := List.mem_map.1 hm
    have := (h2 r hr).1.lt
    simp at e; omega
theorem LR.set (h : LR W wr pf S V G ((sb, n, f) :: R)) (i : Nat) (x : Bool) : LR W (wr.setCell ⟨sb, i, none⟩ (.bool x)) pf S V G ((sb, n, updT f i x) :: R) := by
  obtain ⟨L, h1, h2, h3⟩ := h
  have hs := h2 _ (List.mem_cons_self)
  have hf : Fr [sb] wr (wr.setCell ⟨sb, i, none⟩ (.bool x)) := (Fr.refl _ _).setCell _ _ (.inl (by simp))
  rw [List.map_cons, List.nodup_cons] at h3
  refine ⟨L, h1.keep hf (fun q hq hm => by simp at hm; subst hm; exact hs.2.2 hq) (fun q hq => by simp at hq; subst hq; exact hs.2.1), fun r hr => ?_, by rw [List.map_cons, List.nodup_cons]; exact h3⟩
  rcases List.mem_cons.1 hr with rfl | hr
  · have := hs.1.set i (.bool x)
    rw [bRow_set] at this
    exact ⟨this, hs.2⟩
  · have h4 := h2 r (List.mem_cons_of_mem _ hr)
    exact ⟨hf.blk h4.1 (fun hm => by simp at hm; exact h3.1 (List.mem_map.2 ⟨r, hr, hm⟩)), h4.2⟩
theorem LR.congr {f' : Nat → Bool} (h : LR W wr pf S V G ((sb, n, f) :: R)) (hf : ∀ i, i < n → f i = f' i) : LR W wr pf S V G ((sb, n, f') :: R) := by
  obtain ⟨L, h1, h2, h3⟩ := h
  refine ⟨L, h1, fun r hr => ?_, h3⟩
  rcases List.mem_cons.1 hr with rfl | hr
  · have := h2 _ (List.mem_cons_self)
    exact ⟨by show Blk wr sb _ (bRow n f'); rw [← bRow_congr hf]; exact this.1, this.2⟩
  · exact h2 r (List.mem_cons_of_mem _ hr)
theorem LR.drop {r : Nat × Nat × (Nat → Bool)} (h : LR W wr pf S V G (r :: R)) : LR W wr pf S V G R := by
  obtain ⟨L, h1, h2, h3⟩ := h
  rw [List.map_cons, List.nodup_cons] at h3
  exact ⟨L, h1, fun r hr => h2 r (List.mem_cons_of_mem _ hr), h3.2⟩
theorem LR.moved {L : List Nat} (_h1 : FO W wr pf S V G L) (h2 : ∀ r ∈ R, Blk wr r.1 4 (bRow r.2.1 r.2.2) ∧ W.heap.size ≤ r.1 ∧ r.1 ∉ L) (h3 : (R.map fun r => r.1).Nodup) (hm : FM W wr w' pf S V G' L) : LR W w' pf S V G' R := by
  obtain ⟨L', m1, m2, m3⟩ := hm
  refine ⟨L', m1, fun r hr => ?_, h3⟩
  have h4 := h2 r hr
  exact ⟨m2.blk h4.1 h4.2.2, h4.2.1, fun e => (m3 _ e).elim h4.2.2 (fun e => by have := h4.1.lt; omega)⟩
theorem LR.conn (h : LR W wr pf S V G R) (x y : Int) : Calls Try.prog 17 #[fptr pf, .int .i64 x, .int .i64 y] wr fun e w' => e = .returned (.bool (connG V G x y)) ∧ LR W w' pf S V G R := by
  obtain ⟨L, h1, h2, h3⟩ := h
  refine (fo_conn h1 x y).mono ?_
  rintro e w' ⟨rfl, hm⟩
  exact ⟨rfl, LR.moved h1 h2 h3 hm⟩
theorem LR.size (h : LR W wr pf S V G R) (x : Int) : Calls Try.prog 22 #[fptr pf, .int .i64 x] wr fun e w' => e = .returned (.int .i64 (sizeG V G x)) ∧ LR W w' pf S V G R := by
  obtain ⟨L, h1, h2, h3⟩ := h
  refine (fo_size h1 x).mono ?_
  rintro e w' ⟨rfl, hm⟩
  exact ⟨rfl, LR.moved h1 h2 h3 hm⟩
theorem LR.tree (h : LR W wr pf S V G R) {s : Int} (hs : -9223372036854775808 ≤ s ∧ s ≤ 9223372036854775807) : Calls Try.prog 14 #[fptr pf, .int .i64 s] wr fun e w' => e = .returned (.bool (treeG G s)) ∧ LR W w' pf S V G R ∧ Fr [] wr w' := by
  obtain ⟨L, h1, h2⟩ := id h
  refine (fo_tree h1 hs).mono ?_
  rintro e w' ⟨rfl, h5, h6⟩
  exact ⟨rfl, h.keep h6, h6⟩
theorem LR.count (h : LR W wr pf S V G R) : Calls Try.prog 21 #[fptr pf] wr fun e w' => e = .returned (.int .i64 (compG V G)) ∧ LR W w' pf S V G R ∧ Fr [] wr w' := by
  obtain ⟨L, h1, h2⟩ := id h
  refine (fo_count h1).mono ?_
  rintro e w' ⟨rfl, h5, h6⟩
  exact ⟨rfl, h.keep h6, h6⟩
theorem LR.edges (h : LR W wr pf S V G R) : Calls Try.prog 20 #[fptr pf] wr fun e w' => ∃ v, e = .returned v ∧ RowN w' v (treeL S G) ∧ (∀ q, v.ownBlock = some q → wr.heap.size ≤ q) ∧ LR W w' pf S V G R ∧ Fr [] wr w' := by
  obtain ⟨L, h1, h2⟩ := id h
  refine (fo_edges h1).mono ?_
  rintro e w' ⟨v, rfl, r1, r2, r3, r4⟩
  exact ⟨v, rfl, r1, r2, h.keep r4, r4⟩
end

/-- Whether two vertices are connected by the edges. -/
noncomputable def cB (S V : Nat) (z : Nat → Int × Int × Int) (p u : Nat) : Bool := connG V (EG S V z fun _ => True) p u
section
variable {S V : Nat} {z : Nat → Int × Int × Int} {p u : Nat}
theorem cB_iff (hp : p < V) (hu : u < V) : cB S V z p u = true ↔ Cx (EG S V z fun _ => True) (fun _ => True) p u := by
  unfold cB
  rw [connG_iff ⟨inV_lt hp, inV_lt hu⟩, decide_eq_true_iff, Int.toNat_natCast, Int.toNat_natCast]
theorem rch_there (hp : p < V) (hu : u < V) : rch V S z (fun t => okE V (z t)) p u = cB S V z p u := by
  have h1 := rd_cx (use := fun t => okE V (z t)) (A := zA z) (B := zB z) (len := S) (n := V) (G := EG S V z fun _ => True) (U := fun _ => True) (p := p) hp
    (fun t _ hu => by have := okE_in hu; exact ⟨this.2.2.1, this.2.2.2.1⟩)
    (fun t ht hu => ⟨trivial, _, eg_at ⟨trivial, ht, hu⟩⟩)
    (fun t a b x _ hg => by
      obtain ⟨⟨_, h3, h4⟩, rfl, rfl, rfl⟩ := eg_some.1 hg
      exact ⟨h3, h4, rfl, rfl⟩) u
  rw [← cB_iff hp hu] at h1
  exact Bool.eq_iff_iff.2 h1
theorem rch_tree (hG : GW S V (EG S V z fun _ => True)) (hp : p < V) (hu : u < V) : rch V S z (fun t => treeG (EG S V z fun _ => True) t) p u = cB S V z p u := by
  have ht : ∀ t : Nat, treeG (EG S V z fun _ => True) t = true ↔ isTree (EG S V z fun _ => True) t := fun t => by
    unfold treeG; rw [Int.toNat_natCast, decide_eq_true_iff]; exact ⟨fun h => h.2, fun h => ⟨by omega, h⟩⟩
  have h1 := rd_cx (use := fun t => treeG (EG S V z fun _ => True) t) (A := zA z) (B := zB z) (len := S) (n := V) (G := EG S V z fun _ => True) (U := isTree (EG S V z fun _ => True)) (p := p) hp
    (fun t _ hu => by
      obtain ⟨a, b, x, hg, _⟩ := (ht t).1 hu
      obtain ⟨⟨_, _, h4⟩, _⟩ := eg_some.1 hg
      have := okE_in h4; exact ⟨this.2.2.1, this.2.2.2.1⟩)
    (fun t _ hu => by
      obtain ⟨a, b, x, hg, _⟩ := id ((ht t).1 hu)
      obtain ⟨h4, _⟩ := eg_some.1 hg
      exact ⟨(ht t).1 hu, _, eg_at h4⟩)
    (fun t a b x hu hg => by
      obtain ⟨⟨_, h3, h4⟩, rfl, rfl, rfl⟩ := eg_some.1 hg
      exact ⟨h3, (ht t).2 hu, rfl, rfl⟩) u
  rw [cx_tree hG, ← cB_iff hp hu] at h1
  exact Bool.eq_iff_iff.2 h1
theorem tree_mem {G : EMap} (hS : ∀ s e, G s = some e → s < S) {t : Nat} : t ∈ treeL S G ↔ treeG G t = true := by
  unfold treeL treeG
  rw [List.mem_filter, List.mem_range, Int.toNat_natCast, decide_eq_true_iff, decide_eq_true_iff]
  refine ⟨fun h => ⟨by omega, h.2⟩, fun h => ⟨?_, h.2⟩⟩
  obtain ⟨_, _, _, hg, _⟩ := h.2
  exact hS _ _ hg
theorem size_cB (hp : p < V) : sizeG V (EG S V z fun _ => True) p = (cntT V fun u => cB S V z p u = true : Nat) := by
  unfold sizeG
  rw [if_pos (inV_lt hp), Int.toNat_natCast]
  unfold cxs
  congr 1
  refine Nat.le_antisymm (cnt_le_on V fun u hu h => (cB_iff hp hu).2 h) (cnt_le_on V fun u hu h => (cB_iff hp hu).1 h)
end
end Go.Proofs.Ythkkelkgfkehlaa

/- ForestSpans: the walk. -/
namespace Go.Proofs.Ythkkelkgfkehlaa
open Go.RowKit Classical
set_option maxRecDepth 10000
set_option maxHeartbeats 1600000

noncomputable def memB (l : List Nat) (t : Nat) : Bool := decide (t ∈ l)
theorem treeL_sorted (S : Nat) (G : EMap) : (treeL S G).Pairwise (· < ·) := List.Pairwise.filter _ List.pairwise_lt_range

theorem walk_forestSpans (W : World) (n : Int) (_ : (Lit.int .i64 n).wf = true) (a : Option Addr) (len cap : Nat) (z : Nat → Int × Int × Int) (hz : EdgesF W a len z) :
    Calls Try.prog 6 #[.int .i64 n, .slice a len cap] W fun e w' => e = .returned (.bool true) ∧ Below W.heap.size W w' := by
  have HS := Lib.hid (small_w36 W n a len cap hz.1)
  have HWk := Lib.hid (fun w => works_w w)
  cases hsm : smallF n len with
  | false =>
    rw [hsm] at HS
    clear hz hsm
    go_enter Try.func6, Try.ntmps6
    go_wp2_with fail
    refine HS.out.mono ?_
    rintro _ w1 ⟨rfl, rfl⟩
    go_wp2_with fail
    refine (HWk.out _).mono ?_
    rintro _ w2 ⟨rfl, hf⟩
    have HF := Lib.hid hf; clear hf
    go_wp2_with fail
    go_ret
    exact ⟨rfl, HF.out.below (by simp)⟩
  | true =>
    rw [hsm] at HS
    obtain ⟨n, rfl, hn, hl⟩ := small_true hsm
    have HG1 := Lib.hid (grown_w36 W W (Fr.refl _ _) n hn a len cap hl z hz false)
    have HR := Lib.hid (fun (w : World) (hW : Fr [] W w) (ub ucap : Nat) (use : Nat → Bool) (hu : Blk w ub 4 (bRow len use)) (hok : ∀ i, i < len → use i = true → okE n (z i) = true) (p : Nat) (hp : p < n) => reached_w36 W w hW n hn a len cap hl z hz ub ucap use hu hok p hp)
    clear hz hsm
    have hmk := fun w' => run_makeB len w' (by omega)
    go_enter Try.func6, Try.ntmps6
    go_wp2_with fail
    refine HS.out.mono ?_
    rintro _ w0 ⟨rfl, rfl⟩
    go_wp2_with fail
    refine HG1.out.mono ?_
    rintro _ w1 ⟨pf, tb, rfl, L, hO, hF, hQ, hB, ht, hnL⟩
    have hlr := LR.of (show LK w0 w1 pf len n (EG len n z fun _ => True) tb (fun t => okE n (z t)) from ⟨L, hO, hB, ht, hnL⟩)
    have hb := Blk.new w1 (bRow len fun _ => false) 4
    have hlr2 := hlr.add ((Fr.refl [] w1).alloc (.cells (bRow len fun _ => false).toArray 4)) hb (Nat.le_refl _)
    have HGW := Lib.hid hlr.gw
    have H1 := Lib.hid hlr2
    clear hO hF hQ hB ht hnL HG1 HS hb hlr hlr2
    go_wp2_with fail
    clear hmk
    have HS1 := Lib.hid (show w1.heap.size < (w1.alloc (.cells (bRow len fun _ => false).toArray 4)).heap.size by simp)
    generalize w1.alloc (.cells (bRow len fun _ => false).toArray 4) = w2 at *
    generalize w1.heap.size = ub at *
    have A1 := Lib.hid H1.out.edges
    refine A1.out.mono ?_
    rintro _ w3 ⟨v, rfl, r1, r2, r3, r4⟩
    obtain ⟨ws, hws⟩ : ∃ ws, ws = treeL len (EG len n z fun _ => True) := ⟨_, rfl⟩
    rw [← hws] at r1
    obtain ⟨av, cv, rfl⟩ := r1.slice
    have hwl : ws.length ≤ len := by rw [hws]; exact treeL_le _ _
    have H3 := Lib.hid (And.intro (r3.congr (f' := memB (ws.take 0)) (fun i _ => by simp [memB])) (And.intro r1 (show ∀ q, (Value.slice av ws.length cv).ownBlock = some q → q ≠ ub from fun q hq => by have := r2 q hq; have := HS1.out; omega)))
    have HWs := Lib.hid hws
    clear r1 r2 r3 r4 A1 H1 hws
    go_wp2_with fail
    go_loopw [9] (fun x wr => ∃ k : Nat, k ≤ ws.length ∧ x = .int .i64 k ∧ Hid (LR w0 wr pf len n (EG len n z fun _ => True) [(ub, len, memB (ws.take k)), (tb, len, fun t => okE n (z t))] ∧ RowN wr (.slice av ws.length cv) ws)) (fun x _ => ws.length - (intOf x).toNat)
    case atStart => exact ⟨0, Nat.zero_le _, rfl, Lib.hid ⟨H3.out.1, H3.out.2.1⟩⟩
    case round =>
      have HNe := Lib.hid H3.out.2.2
      clear H3
      obtain ⟨k, hk, rfl, H⟩ := hrel
      by_cases hlt : k < ws.length
      · have hlt' : (k : Int) < ws.length := by omega
        have hw1 : IntKind.i64.wrap ((k : Int) + 1) = ((k + 1 : Nat) : Int) := by rw [show (k : Int) + 1 = ((k + 1 : Nat) : Int) by omega]; exact IntWalk.i64_in _ (by omega)
        obtain ⟨bv, cv', ev, _, r0⟩ := H.out.2.at hlt
        simp only [Value.slice.injEq, true_and] at ev
        obtain ⟨rfl, rfl⟩ := ev
        have hst : (ws.take (k + 1)) = ws.take k ++ [ws[k]] := by rw [List.take_add_one, List.getElem?_eq_getElem hlt]; rfl
        have hmem : ws[k] ∈ treeL len (EG len n z fun _ => True) := by rw [← HWs.out]; exact List.getElem_mem hlt
        have htr : treeG (EG len n z fun _ => True) (ws[k] : Nat) = true := (tree_mem HGW.out.slot).1 hmem
        have hsl : ws[k] < len := by unfold treeL at hmem; exact List.mem_range.1 (List.mem_filter.1 hmem).1
        have hok : okE n (z ws[k]) = true := by
          unfold treeG at htr
          obtain ⟨_, _, _, _, hg, _⟩ := of_decide_eq_true htr
          rw [Int.toNat_natCast] at hg
          exact (eg_some.1 hg).1.2.2
        have hprev : k = 0 ∨ ∃ k' sp, k = k' + 1 ∧ ws[k']? = some sp ∧ sp < ws[k] := by
          cases k with
          | zero => exact .inl rfl
          | succ k' =>
            right
            have := treeL_sorted len (EG len n z fun _ => True)
            rw [← HWs.out] at this
            refine ⟨k', ws[k']'(by omega), rfl, List.getElem?_eq_getElem _, List.pairwise_iff_getElem.1 this _ _ _ _ (by omega)⟩
        generalize ws[k] = s at *
        have hA := LR.tree H.out.1 (s := (s : Int)) (by omega)
        rw [htr] at hA
        have HA := Lib.hid hA
        have t0 := (H.out.1.get (r := (tb, len, fun t => okE n (z t))) (by simp)).cell s
        simp only [bRow_at _ hsl, hok] at t0
        have HST := Lib.hid (And.intro hst hsl)
        have d1 : ¬ (s : Int) < 0 := by omega
        have d2 : ¬ len ≤ s := by omega
        clear hst hmem htr hok hA
        rcases hprev with rfl | ⟨k', sp, rfl, hgp, hlp⟩
        · clear hsl
          go_wp2_with fail
          refine HA.out.mono ?_
          rintro _ w5 ⟨rfl, h5, hf5⟩
          have hu := h5.set s true
          have hu2 := hu.congr (f' := memB (ws.take (0 + 1))) (fun t ht => by
            rw [HST.out.1]
            unfold updT memB
            by_cases e : t = s
            · rw [if_pos e]; simp [e]
            · rw [if_neg e]; simp [e])
          have hfs : Fr [ub] w5 (w5.setCell ⟨ub, s, none⟩ (.bool true)) := (Fr.refl _ _).setCell _ _ (.inl (by simp))
          have hrow := (H.out.2.fr hf5 (by simp)).fr hfs (fun q hq hm => by simp at hm; exact HNe.out q hq hm)
          have u0 := (h5.get (r := (ub, len, memB (ws.take 0))) (by simp)).cell s
          have u1 := (h5.get (r := (ub, len, memB (ws.take 0))) (by simp)).frozen s
          simp only [bRow_at _ HST.out.2] at u0
          have HN := Lib.hid (And.intro hu2 hrow)
          clear hu hu2 hfs hrow h5 hf5 HA t0
          go_wp2_with fail
          go_roundw
          case rel => exact ⟨0 + 1, by omega, rfl, HN⟩
          case measure => simp [intOf]; omega
        · clear hsl
          go_wp2_with fail
          refine HA.out.mono ?_
          rintro _ w5 ⟨rfl, h5, hf5⟩
          have hu := h5.set s true
          have hu2 := hu.congr (f' := memB (ws.take (k' + 1 + 1))) (fun t ht => by
            rw [HST.out.1]
            unfold updT memB
            by_cases e : t = s
            · rw [if_pos e]; simp [e]
            · rw [if_neg e]; simp [e])
          have hfs : Fr [ub] w5 (w5.setCell ⟨ub, s, none⟩ (.bool true)) := (Fr.refl _ _).setCell _ _ (.inl (by simp))
          have hrow := (H.out.2.fr hf5 (by simp)).fr hfs (fun q hq hm => by simp at hm; exact HNe.out q hq hm)
          have u0 := (h5.get (r := (ub, len, memB (ws.take (k' + 1)))) (by simp)).cell s
          have u1 := (h5.get (r := (ub, len, memB (ws.take (k' + 1)))) (by simp)).frozen s
          simp only [bRow_at _ HST.out.2] at u0
          have HN := Lib.hid (And.intro hu2 hrow)
          have hrow5 := H.out.2.fr hf5 (by simp)
          have hk' : k' < ws.length := by omega
          obtain ⟨bv', cv'', ev, _, r5⟩ := hrow5.at hk'
          simp only [Value.slice.injEq, Option.some.injEq, Addr.mk.injEq, and_true, true_and] at ev
          obtain ⟨rfl, rfl⟩ := ev
          rw [show ws[k'] = sp by rw [List.getElem?_eq_getElem hk'] at hgp; exact Option.some.inj hgp] at r5
          have hw2 : IntKind.i64.wrap (((k' + 1 : Nat) : Int) - 1) = (k' : Int) := by rw [show ((k' + 1 : Nat) : Int) - 1 = k' by omega]; exact IntWalk.i64_in _ (by omega)
          have d3 : ¬ s ≤ sp := by omega
          have d4 : ¬ (s : Int) ≤ sp := by omega
          have d5 : (0 : Int) < ((k' + 1 : Nat) : Int) := by omega
          have d6 : (k' : Int) < ws.length := by omega
          clear hu hu2 hfs hrow h5 hf5 HA t0 hrow5 hgp
          go_wp2_with fail
          go_roundw
          case rel => exact ⟨k' + 1 + 1, by omega, rfl, HN⟩
          case measure => simp [intOf]; omega
      · obtain rfl : k = ws.length := by omega
        have hmb : ∀ t, t < len → memB (ws.take ws.length) t = treeG (EG len n z fun _ => True) t := fun t _ => by
          rw [List.take_of_length_le (Nat.le_refl _), HWs.out]
          unfold memB
          have := tree_mem (S := len) HGW.out.slot (t := t)
          by_cases e : t ∈ treeL len (EG len n z fun _ => True)
          · rw [decide_eq_true e, this.1 e]
          · rw [decide_eq_false e]
            cases hc : treeG (EG len n z fun _ => True) t with
            | false => rfl
            | true => exact absurd (this.2 hc) e
        have H2 := Lib.hid (H.out.1.congr hmb)
        clear hmb H
        go_wp2_with fail
        go_loopw [11] (fun x wr => ∃ i : Nat, i ≤ len ∧ x = .int .i64 i ∧ Hid (LR w0 wr pf len n (EG len n z fun _ => True) [(ub, len, fun t => treeG (EG len n z fun _ => True) t), (tb, len, fun t => okE n (z t))])) (fun x _ => len - (intOf x).toNat)
        case atStart => exact ⟨0, Nat.zero_le _, rfl, H2⟩
        case round =>
          clear H2
          obtain ⟨i, hi, rfl, H⟩ := hrel
          by_cases hlt : i < len
          · have hlt' : (i : Int) < len := by omega
            have hw1 : IntKind.i64.wrap ((i : Int) + 1) = ((i + 1 : Nat) : Int) := by rw [show (i : Int) + 1 = ((i + 1 : Nat) : Int) by omega]; exact IntWalk.i64_in _ (by omega)
            obtain ⟨tk, htk⟩ : ∃ tk, tk = treeG (EG len n z fun _ => True) i := ⟨_, rfl⟩
            have HE := Lib.hid htk; clear htk
            go_wp2_with fail
            refine region_cw (fun w' => LR w0 w' pf len n (EG len n z fun _ => True) [(ub, len, fun t => treeG (EG len n z fun _ => True) t), (tb, len, fun t => okE n (z t))]) (by kernel_rfl) (by kernel_rfl) (H.out.keep (Fr.refl [] wr).drew) ?_
            iterate 2 (refine cw_pure (by kernel_rfl) (fun KK hK => ?_); go_simp; refine hK.out _ ?_; clear hK KK)
            refine cw_val (by kernel_rfl) (.bool tk) (fun w' hw' => ?_) ?_
            · go_simp
              refine (LR.tree hw' (s := (i : Int)) (by omega)).mono ?_
              rintro _ w6 ⟨rfl, h1, h2⟩
              exact ⟨by rw [HE.out], h1⟩
            iterate 3 (refine cw_pure (by kernel_rfl) (fun KK hK => ?_); go_simp; refine hK.out _ ?_; clear hK KK)
            refine cw_val (by kernel_rfl) (.bool tk) (fun w' hw' => ?_) ?_
            · have q2 := (hw'.get (r := (ub, len, fun t => treeG (EG len n z fun _ => True) t)) (by simp)).cell i
              simp only [bRow_at _ hlt, ← HE.out] at q2
              go_simp
            have e9 : (tk != tk) = false := by cases tk <;> rfl
            iterate 1 (refine cw_pure (by kernel_rfl) (fun KK hK => ?_); go_simp; refine hK.out _ ?_; clear hK KK)
            refine cw_nil ?_
            intro w6 h1
            have H6 := Lib.hid h1; clear h1
            go_wp2_with fail
            go_roundw
            case rel => exact ⟨i + 1, by omega, rfl, H6⟩
            case measure => simp [intOf]; omega
          · obtain rfl : i = len := by omega
            have hcmp := comp_tree HGW.out
            have hwsl : ws.length = cntT i (isTree (EG i n z fun _ => True)) := by rw [HWs.out]; rfl
            have A1 := Lib.hid H.out.count
            obtain ⟨cc, hcc⟩ : ∃ cc, cc = compG n (EG i n z fun _ => True) := ⟨_, rfl⟩
            rw [← hcc] at A1 hcmp
            have hle : cc ≤ n := by omega
            have hw1 : IntKind.i64.wrap ((n : Int) - cc) = (ws.length : Int) := by rw [show (n : Int) - cc = (ws.length : Int) by omega]; exact IntWalk.i64_in _ (by omega)
            clear hcmp hwsl hcc H
            go_wp2_with fail
            refine A1.out.mono ?_
            rintro _ w6 ⟨rfl, h6, _⟩
            have H6 := Lib.hid h6; clear h6 A1
            go_wp2_with fail
            go_loopw [12] (fun x wr => ∃ v : Nat, v ≤ n ∧ x = .int .i64 v ∧ Hid (LR w0 wr pf i n (EG i n z fun _ => True) [(ub, i, fun t => treeG (EG i n z fun _ => True) t), (tb, i, fun t => okE n (z t))])) (fun x _ => n - (intOf x).toNat)
            case atStart => exact ⟨0, Nat.zero_le _, rfl, H6⟩
            case round =>
              clear H6
              obtain ⟨v, hv, rfl, H⟩ := hrel
              by_cases hlt : v < n
              · have hlt' : (v : Int) < n := by omega
                have hw1 : IntKind.i64.wrap ((v : Int) + 1) = ((v + 1 : Nat) : Int) := by rw [show (v : Int) + 1 = ((v + 1 : Nat) : Int) by omega]; exact IntWalk.i64_in _ (by omega)
                have A1 := Lib.hid (HR.out wr H.out.fr tb i (fun t => okE n (z t)) (H.out.get (r := (tb, i, fun t => okE n (z t))) (by simp)) (fun t _ h => h) v hlt)
                rename World => wo
                go_wp2_with fail
                refine A1.out.mono ?_
                rintro _ w7 ⟨sb1, rfl, hb, hs, hf⟩
                have h7 := (H.out.add hf hb hs).congr (f' := fun u => cB i n z v u) (fun u hu => rch_there hlt hu)
                have A2 := Lib.hid (HR.out w7 h7.fr ub i (fun t => treeG (EG i n z fun _ => True) t) (h7.get (r := (ub, i, fun t => treeG (EG i n z fun _ => True) t)) (by simp)) (fun t _ h => by
                  unfold treeG at h
                  obtain ⟨_, _, _, _, hg, _⟩ := of_decide_eq_true h
                  rw [Int.toNat_natCast] at hg
                  exact (eg_some.1 hg).1.2.2) v hlt)
                have H7 := Lib.hid h7
                clear hb hs hf h7 A1
                go_wp2_with fail
                refine A2.out.mono ?_
                rintro _ w8 ⟨sb2, rfl, hb, hs, hf⟩
                have H8 := Lib.hid ((H7.out.add hf hb hs).congr (f' := fun u => cB i n z v u) (fun u hu => rch_tree HGW.out hlt hu))
                clear hb hs hf H7 A2
                go_wp2_with fail
                go_loopw [15, 16] (fun x y wr => ∃ u : Nat, u ≤ n ∧ y = .int .i64 u ∧ x = .int .i64 (cntT u fun u => cB i n z v u = true : Nat) ∧ Hid (LR w0 wr pf i n (EG i n z fun _ => True) [(sb2, n, fun u => cB i n z v u), (sb1, n, fun u => cB i n z v u), (ub, i, fun t => treeG (EG i n z fun _ => True) t), (tb, i, fun t => okE n (z t))])) (fun _ y _ => n - (intOf y).toNat)
                case atStart => exact ⟨0, Nat.zero_le _, rfl, rfl, H8⟩
                case round =>
                  clear H8
                  obtain ⟨u, hu, rfl, rfl, H8⟩ := hrel
                  by_cases hlt2 : u < n
                  · have hlt2' : (u : Int) < n := by omega
                    have hw2 : IntKind.i64.wrap ((u : Int) + 1) = ((u + 1 : Nat) : Int) := by rw [show (u : Int) + 1 = ((u + 1 : Nat) : Int) by omega]; exact IntWalk.i64_in _ (by omega)
                    have c1 := cntT_succ u fun u => cB i n z v u = true
                    have b1 := cntT_le u fun u => cB i n z v u = true
                    obtain ⟨cu, hcu⟩ : ∃ cu, cu = cB i n z v u := ⟨_, rfl⟩
                    rw [← hcu] at c1
                    have C1 := Lib.hid (And.intro c1 hcu)
                    clear c1 hcu
                    generalize (cntT u fun u => cB i n z v u = true) = e1 at *
                    have hw3 : IntKind.i64.wrap ((e1 : Int) + 1) = ((e1 + 1 : Nat) : Int) := by rw [show (e1 : Int) + 1 = ((e1 + 1 : Nat) : Int) by omega]; exact IntWalk.i64_in _ (by omega)
                    have e9 : (cu != cu) = false := by cases cu <;> rfl
                    go_wp2_with fail
                    refine region_cw (fun w' => LR w0 w' pf i n (EG i n z fun _ => True) [(sb2, n, fun u => cB i n z v u), (sb1, n, fun u => cB i n z v u), (ub, i, fun t => treeG (EG i n z fun _ => True) t), (tb, i, fun t => okE n (z t))]) (by kernel_rfl) (by kernel_rfl) (H8.out.keep (Fr.refl [] wr).drew) ?_
                    iterate 3 (refine cw_pure (by kernel_rfl) (fun KK hK => ?_); go_simp; refine hK.out _ ?_; clear hK KK)
                    refine cw_val (by kernel_rfl) (.bool cu) (fun w' hw' => ?_) ?_
                    · have q2 := (hw'.get (r := (sb1, n, fun u => cB i n z v u)) (by simp)).cell u
                      simp only [bRow_at _ hlt2, ← C1.out.2] at q2
                      go_simp
                    iterate 3 (refine cw_pure (by kernel_rfl) (fun KK hK => ?_); go_simp; refine hK.out _ ?_; clear hK KK)
                    refine cw_val (by kernel_rfl) (.bool cu) (fun w' hw' => ?_) ?_
                    · have q2 := (hw'.get (r := (sb2, n, fun u => cB i n z v u)) (by simp)).cell u
                      simp only [bRow_at _ hlt2, ← C1.out.2] at q2
                      go_simp
                    iterate 5 (refine cw_pure (by kernel_rfl) (fun KK hK => ?_); go_simp; refine hK.out _ ?_; clear hK KK)
                    refine cw_val (by kernel_rfl) (.bool cu) (fun w' hw' => ?_) ?_
                    · go_simp
                      refine (LR.conn hw' (v : Int) (u : Int)).mono ?_
                      rintro _ w6 ⟨rfl, h1⟩
                      exact ⟨by rw [C1.out.2]; rfl, h1⟩
                    iterate 3 (refine cw_pure (by kernel_rfl) (fun KK hK => ?_); go_simp; refine hK.out _ ?_; clear hK KK)
                    refine cw_val (by kernel_rfl) (.bool cu) (fun w' hw' => ?_) ?_
                    · have q2 := (hw'.get (r := (sb1, n, fun u => cB i n z v u)) (by simp)).cell u
                      simp only [bRow_at _ hlt2, ← C1.out.2] at q2
                      go_simp
                    iterate 2 (refine cw_pure (by kernel_rfl) (fun KK hK => ?_); go_simp; refine hK.out _ ?_; clear hK KK)
                    refine cw_nil ?_
                    intro w9 h9
                    have q2 := (h9.get (r := (sb1, n, fun u => cB i n z v u)) (by simp)).cell u
                    simp only [bRow_at _ hlt2, ← C1.out.2] at q2
                    have H9 := Lib.hid h9; clear h9
                    cases cu with
                    | true =>
                      have D1 := C1.out.1; rw [if_pos rfl] at D1
                      have HD := Lib.hid D1; clear D1
                      go_wp2_with fail
                      go_roundw
                      case rel => exact ⟨u + 1, by omega, rfl, by rw [HD.out]; rfl, H9⟩
                      case measure => simp [intOf]; omega
                    | false =>
                      have D1 := C1.out.1; rw [if_neg (by simp)] at D1
                      have HD := Lib.hid D1; clear D1
                      go_wp2_with fail
                      go_roundw
                      case rel => exact ⟨u + 1, by omega, rfl, by rw [HD.out]; rfl, H9⟩
                      case measure => simp [intOf]; omega
                  · obtain rfl : u = n := by omega
                    have A3 := H8.out.drop.drop.size (v : Int)
                    rw [size_cB hlt] at A3
                    have A3 := Lib.hid A3
                    generalize (cntT u fun u => cB i u z v u = true) = e1 at *
                    clear H8
                    go_wp2_with fail
                    refine A3.out.mono ?_
                    rintro _ w9 ⟨rfl, h9⟩
                    have H9 := Lib.hid h9; clear h9 A3
                    go_wp2_with fail
                    go_roundw
                    case rel => exact ⟨v + 1, by omega, rfl, H9⟩
                    case measure => simp [intOf]; omega
              · obtain rfl : v = n := by omega
                go_wp2_with fail
                refine (HWk.out _).mono ?_
                rintro _ w7 ⟨rfl, hf⟩
                have HF := Lib.hid (H.out.fr.trans' hf); clear hf
                go_wp2_with fail
                go_ret
                exact ⟨rfl, HF.out.below (by simp)⟩
end Go.Proofs.Ythkkelkgfkehlaa

namespace Go.Proofs.Ythkkelkgfkehlaa.forestSpans
open Go.ChangeShapes Go.WideShapes Go.ChangeAt Go.RowKit
set_option linter.unusedVariables false

theorem own : ownKnob Try.prog.godebug = none := by kernel_rfl
theorem laidOut : laidOutB Try.prog = true := by kernel_rfl

set_option maxRecDepth 100000 in
theorem lifted (os : Os) (started : os.Started) (H : Type) (enc : TypeId × Value → H) :
    ReturnsInHanded {} Try.checked os 6 .any (Rows.forestSpansSpec.pre6 enc Try.prog Try.f6 Rows.forestSpansRow.domain false) (Rows.forestSpansSpec.post enc Try.prog Try.f6 false true false false) := by
  refine returnsInHanded_of_change (C := Try.checked) own started (by kernel_rfl) Try.func6
    (ChangeSpec.witness6 (enc := enc) (C := Try.checked) false ⟨#[], #[.int .i64 0, .slice none 0 0], []⟩ 8 (by kernel_rfl) (by kernel_rfl) (by kernel_rfl) (by kernel_rfl)) ?_
  intro W base args ds gs before hval0 hW hcnd _
  have hval : ∀ (j : Nat) t v, Try.f6.params[j]? = some t → args[j]? = some v → Value.okWide Try.prog W .any base t v := hval0
  have hW' := hW
  obtain ⟨p, q, hA0, hV, rfl, hfz, hnd⟩ := hW
  have hA : DataW.TrodAll enc Try.prog W 0 (fun _ => true) true Try.f6.params.toList args.toList ds p := hA0
  rw [Try.params6] at hA hval
  obtain ⟨v0, vs0, d0, ds0, p0, q0, hargs, rfl, rfl, h0, r0⟩ := trodAll_cons hA
  obtain ⟨v1, vs1, d1, ds1, p1, q1, rfl, rfl, rfl, h1, r1⟩ := trodAll_cons r0
  obtain ⟨rfl, rfl, rfl⟩ := trodAll_nil r1
  obtain rfl : args = #[v0, v1] := by cases args; simp_all
  obtain ⟨rfl, rfl⟩ := trodVars_none hV
  obtain ⟨a0, rfl, rfl, rfl, w0⟩ := open_int Try.underlying3 (hval 0 3 v0 rfl rfl) h0
  obtain ⟨a1, len1, cap1, rfl⟩ := okWide_slice Try.underlying22 (hval 1 22 v1 rfl rfl)
  have k1 := h1
  have lt1 : ∀ x ∈ p1, x.block < W.heap.size := by obtain ⟨m, hm⟩ := k1; exact DataW.trod_lt m _ _ _ hm
  obtain ⟨z1, w1⟩ := open_edges h1
  clear hA0 hval0
  refine (walk_forestSpans W a0 w0 a1 len1 cap1 z1 w1).mono fun e W' ⟨he, bel⟩ => ?_
  subst he
  exact ⟨_, rfl, _, _, _, [], _, [], hW', trodAll_mk1 (shut_bool Try.underlying4 _), (trodAll_cons_mk (shut_int Try.underlying3 w0) (trodAll_cons_mk (Below.trod laidOut (by kernel_rfl) (of_decide_eq_true (by kernel_rfl)) k1 bel lt1) trodAll_mk0)), rfl, bel.frame _, fun h => by cases h⟩

theorem over : Rows.forestSpansRow.holds Try.pinned (OpenSpec.ofChange Rows.forestSpansSpec) :=
  OpenClaim.holds_of_wide 6 Try.f6 rfl rfl rfl rfl rfl rfl rfl ⟨rfl, rfl, rfl, rfl, rfl⟩ rfl rfl rfl rfl rfl (by kernel_rfl) Try.func6 (by kernel_rfl)
    (of_decide_eq_true (by kernel_rfl)) (by unfold Func.isWrapper; first | (rw [if_pos (by decide +kernel)]; kernel_rfl) | (rw [if_neg (by decide +kernel)]; exact ⟨rfl, rfl⟩))
    (fun os started H enc _ => lifted os started H enc)

end Go.Proofs.Ythkkelkgfkehlaa.forestSpans

namespace Go.Proofs.Ythkkelkgfkehlaa
theorem forestSpans_holds : Rows.ForestSpansSaid := forestSpans.over
#print axioms forestSpans_holds
end Go.Proofs.Ythkkelkgfkehlaa
