/- store laws: how many vertices there are with another edge. -/
import Derived.Test.YtbegdgnhpklceaaB1
import Derived.Test.YtbegdgnhpklceaaB14
set_option linter.unusedSimpArgs false
set_option linter.unusedVariables false
/- store laws: moves; where an edge lies in a list; bounds. -/
namespace Go.Proofs.Ytbegdgnhpklceaa
open Go.RowKit
set_option maxRecDepth 10000
set_option maxHeartbeats 800000

theorem sg_list {W wr : World} {ps : Nat} {s : Sm} {Z : List Nat} (h : SG W wr ps s Z) : Calls Try.prog 13 #[sptr ps] wr fun e w' => ∃ v, e = .returned v ∧ RowV w' v s.L ∧ SG W w' ps s (v.ownBlock.toList ++ Z) ∧ Fr [] wr w' := by
  have h' := h
  obtain ⟨K, h1, _⟩ := h
  refine (st_list h1).mono ?_
  rintro _ w' ⟨v, rfl, k1, k2, k3⟩
  exact ⟨v, rfl, k1, h'.row k3 k2 (fun q hq => k1.lt hq), k3⟩

theorem flat_move : Flat Try.prog 69 [.b, .i .u8, .i .u8, .i .u8] := by
  refine Flat.struct Try.underlying69 (by kernel_rfl) (fun j k hj => ?_)
  have hi : Flat Try.prog 5 [.i .u8] := Flat.int Try.underlying5 (by kernel_rfl)
  have hb : Flat Try.prog 4 [.b] := Flat.bool Try.underlying4 (by kernel_rfl)
  match j, hj with
  | 0, hj => exact ⟨0, _, _, rfl, hb, by decide, hj⟩
  | 1, hj => exact ⟨1, _, _, rfl, hi, by decide, hj⟩
  | 2, hj => exact ⟨2, _, _, rfl, hi, by decide, hj⟩
  | 3, hj => exact ⟨3, _, _, rfl, hi, by decide, hj⟩
  | j + 4, hj => simp at hj
/-- A slice of len moves reads z. -/
def MovesF (w : World) (a : Option Addr) (len : Nat) (z : Nat → Bool × Nat × Nat × Nat) : Prop :=
  len ≤ 9223372036854775807 ∧ ∀ i, i < len → ∃ b off, a = some ⟨b, off, none⟩ ∧ b < w.heap.size ∧ w.cell? ⟨b, off + i * 4, none⟩ = some (.bool (z i).1) ∧ w.cell? ⟨b, off + i * 4 + 1, none⟩ = some (.int .u8 (z i).2.1) ∧
    w.cell? ⟨b, off + i * 4 + 2, none⟩ = some (.int .u8 (z i).2.2.1) ∧ w.cell? ⟨b, off + i * 4 + 3, none⟩ = some (.int .u8 (z i).2.2.2) ∧ (z i).2.1 < 256 ∧ (z i).2.2.1 < 256 ∧ (z i).2.2.2 < 256
theorem u8_of_wf {a : Int} (h : (Lit.int .u8 a).wf = true) : ∃ n : Nat, a = n ∧ n < 256 := by
  have h : (decide ((0 : Int) ≤ a) && decide (a ≤ 255)) = true := h
  simp only [Bool.and_eq_true, decide_eq_true_eq] at h
  exact ⟨a.toNat, by omega, by omega⟩
theorem open_moves {H : Type} {enc : TypeId × Value → H} {W : World} {a : Option Addr} {len cap : Nat} {d : DataW H} {p : List MemPlace}
    (h : DataW.Trod enc Try.prog W 0 (fun _ => true) true 22 (.slice a len cap) d p) : ∃ z, MovesF W a len z := by
  obtain ⟨z, hz⟩ := open_flat Try.underlying22 flat_move (by decide) h
  have key : ∀ i, ∃ u : Bool × Nat × Nat × Nat, i < len → z i 0 = .bool u.1 ∧ z i 1 = .int .u8 u.2.1 ∧ z i 2 = .int .u8 u.2.2.1 ∧ z i 3 = .int .u8 u.2.2.2 ∧ u.2.1 < 256 ∧ u.2.2.1 < 256 ∧ u.2.2.2 < 256 := by
    intro i
    by_cases hi : i < len
    · obtain ⟨b, off, rfl, _, h1⟩ := hz.2 i hi
      obtain ⟨n0, e0⟩ := (h1 0 _ rfl).2
      obtain ⟨n1, e1, w1⟩ := (h1 1 _ rfl).2
      obtain ⟨n2, e2, w2⟩ := (h1 2 _ rfl).2
      obtain ⟨n3, e3, w3⟩ := (h1 3 _ rfl).2
      obtain ⟨m1, rfl, k1⟩ := u8_of_wf w1
      obtain ⟨m2, rfl, k2⟩ := u8_of_wf w2
      obtain ⟨m3, rfl, k3⟩ := u8_of_wf w3
      exact ⟨(n0, m1, m2, m3), fun _ => ⟨e0, e1, e2, e3, k1, k2, k3⟩⟩
    · exact ⟨(false, 0, 0, 0), fun h => absurd h hi⟩
  obtain ⟨F, hF⟩ := Classical.axiomOfChoice key
  refine ⟨F, hz.1, fun i hi => ?_⟩
  obtain ⟨b, off, rfl, hb, h1⟩ := hz.2 i hi
  obtain ⟨e0, e1, e2, e3, e4⟩ := hF i hi
  refine ⟨b, off, rfl, hb, ?_, ?_, ?_, ?_, e4⟩
  · rw [← e0]; exact (h1 0 _ rfl).1
  · rw [← e1]; exact (h1 1 _ rfl).1
  · rw [← e2]; exact (h1 2 _ rfl).1
  · rw [← e3]; exact (h1 3 _ rfl).1

/-- Where the edge in a slot lies among the first i ones. -/
def atI (L : List Lv) (sl : Nat) : Nat → Int
  | 0 => -1
  | i + 1 => if (L[i]?.map (·.slot)) = some sl then i else atI L sl i
theorem atI_none {L : List Lv} {sl : Nat} (h : ∀ e ∈ L, e.slot ≠ sl) : ∀ i, atI L sl i = -1
  | 0 => rfl
  | i + 1 => by
    unfold atI
    rw [if_neg, atI_none h i]
    intro e
    obtain ⟨x, hx, hs⟩ := Option.map_eq_some_iff.1 e
    exact h x (List.mem_of_getElem? hx) hs
theorem atI_some {L : List Lv} (hn : (L.map (·.slot)).Nodup) {j : Nat} (hj : j < L.length) : ∀ i, j < i → atI L (L[j]).slot i = j
  | 0, h => absurd h (Nat.not_lt_zero _)
  | i + 1, h => by
    unfold atI
    by_cases e : i = j
    · subst e
      rw [List.getElem?_eq_getElem hj]; exact if_pos rfl
    · rw [if_neg, atI_some hn hj i (by omega)]
      intro h1
      obtain ⟨x, hx, hs⟩ := Option.map_eq_some_iff.1 h1
      obtain ⟨hi, rfl⟩ := List.getElem?_eq_some_iff.1 hx
      have : i = j := (List.getElem_inj (xs := L.map (fun (x : Lv) => x.slot)) (h₀ := by simpa using hi) (h₁ := by simpa using hj) hn).1 (by simpa using hs)
      exact e this
theorem filter_at {L : List Lv} (hn : (L.map (·.slot)).Nodup) {j : Nat} (hj : j < L.length) : (L.filter fun e => e.slot != (L[j]).slot) = L.take j ++ L.drop (j + 1) := by
  have hL : L = L.take j ++ L[j] :: L.drop (j + 1) := by rw [List.getElem_cons_drop, List.take_append_drop]
  have hn' := hn
  generalize hx : L[j] = x at *
  rw [hL] at hn'
  simp only [List.map_append, List.map_cons] at hn'
  rw [List.nodup_append, List.nodup_cons] at hn'
  obtain ⟨_, ⟨h2, _⟩, h3⟩ := hn'
  conv => lhs; rw [hL]
  rw [List.filter_append, List.filter_cons_of_neg (by simp)]
  congr 1
  · refine List.filter_eq_self.2 fun e he => ?_
    simp only [bne_iff_ne]
    exact h3 _ (List.mem_map.2 ⟨e, he, rfl⟩) _ (List.mem_cons_self ..)
  · refine List.filter_eq_self.2 fun e he => ?_
    simp only [bne_iff_ne]
    exact fun h => h2 (List.mem_map.2 ⟨e, he, h⟩)
/-- A store of the laws. -/
structure Bd (s : Sm) (k : Nat) : Prop where
  V : s.V = 10
  E : s.E = 20
  last : s.last ≤ k
  id : ∀ e ∈ s.L, e.u < 16 ∧ e.v < 16
section
variable {s : Sm} {k : Nat}
theorem Bd.mono (h : Bd s k) {m : Nat} (hm : k ≤ m) : Bd s m := ⟨h.V, h.E, Nat.le_trans h.last hm, h.id⟩
theorem Bd.new : Bd (Sm.new 10 20 0) 0 := ⟨rfl, rfl, Nat.le_refl _, by simp [Sm.new]⟩
theorem Bd.rem (h : Bd s k) (i : Nat) : Bd (s.rem i) k := ⟨h.V, h.E, h.last, fun e he => h.id e (List.mem_filter.1 he).1⟩
theorem Bd.ins (h : Bd s k) {u v : Nat} (hu : u < 16) (hv : v < 16) (wt t x : Int) : Bd (s.ins u v wt t x) (k + 1) := by
  refine ⟨h.V, h.E, Nat.succ_le_succ h.last, fun e he => ?_⟩
  rcases List.mem_append.1 he with he | he
  · exact h.id e he
  · rw [List.mem_singleton] at he; subst he; exact ⟨hu, hv⟩
theorem Bd.len (h : Bd s k) (hok : s.Ok) : s.L.length ≤ 20 := by
  have h1 := Sm.len_used hok
  have h2 := hok.ar.hb
  have h3 := hok.sl
  have h4 := h.E
  unfold Ar.used at h1
  omega
/-- The edge in a slot, where the slot is in use. -/
theorem has_at (h : s.Ok) {i : Nat} (hh : s.has i = true) : ∃ j, ∃ hj : j < s.L.length, atI s.L i s.L.length = j ∧ s.L[j] = s.got i ∧ (s.rem i).L = s.L.take j ++ s.L.drop (j + 1) := by
  obtain ⟨h0, hu⟩ := (Sm.has_iff h i).1 hh
  simp only [Int.toNat_natCast] at hu
  obtain ⟨hm, hs⟩ := Sm.live_used h hu
  obtain ⟨j, hj, he⟩ := List.getElem_of_mem hm
  have hg : s.got i = liveAt s.L i := if_pos h0
  refine ⟨j, hj, ?_, by rw [hg, he], ?_⟩
  · have := atI_some h.one hj s.L.length hj
    rwa [he, hs] at this
  · have := filter_at h.one hj
    rw [he, hs] at this
    exact this
theorem has_not {i : Nat} (hh : s.has i = false) : atI s.L i s.L.length = -1 := by
  refine atI_none (fun e he hs => ?_) _
  unfold Sm.has at hh
  rw [decide_eq_true (by omega : (0 : Int) ≤ i), Bool.true_and] at hh
  have := List.any_eq_false.1 hh e he
  simp [hs] at this
end
end Go.Proofs.Ytbegdgnhpklceaa

/- store laws: a store after moves. -/
namespace Go.Proofs.Ytbegdgnhpklceaa
open Go.RowKit
set_option maxRecDepth 10000
set_option maxHeartbeats 1600000

/-- A store with the row of its edges. -/
def SRw (W wr : World) (ps : Nat) (s : Sm) (v : Value) (k : Nat) : Prop := SG W wr ps s v.ownBlock.toList ∧ RowV wr v s.L ∧ Bd s k
theorem moved_w (W : World) (a : Option Addr) (len cap : Nat) (z : Nat → Bool × Nat × Nat × Nat) (hz : MovesF W a len z) :
    Calls Try.prog 10 #[.slice a len cap] W fun e w' => ∃ ps s v, e = .returned (.tuple #[sptr ps, v, .bool true]) ∧ SRw W w' ps s v 200 := by
  have HN := Lib.hid (sg_new (W := W) (wr := W) (Z := []) 10 20 (Fr.refl [] W) (by simp) (by omega) (by omega))
  have HZ := Lib.hid hz; clear hz
  go_enter Try.func10, Try.ntmps10
  go_wp2_with fail
  refine HN.out.mono ?_
  rintro _ w1 ⟨ps, rfl, hS1, _⟩
  have HS1 := Lib.hid hS1; clear hS1 HN
  go_wp2_with fail
  go_loopw [7, 8, 9] (fun x y c wr => ∃ (k : Nat) (s : Sm) (v : Value), k ≤ 200 ∧ c = .int .i64 k ∧ y = .int .u64 s.last ∧ v = x ∧ Hid (SRw W wr ps s v k)) (fun _ _ c _ => 200 - (intOf c).toNat)
  case atStart => exact ⟨0, Sm.new 10 20 0, nilS, by omega, rfl, rfl, rfl, Lib.hid ⟨HS1.out, RowV.nil _, Bd.new⟩⟩
  case round =>
    obtain ⟨k, s, v, hk, rfl, rfl, rfl, HR⟩ := hrel
    clear HS1
    rename World => wr
    by_cases hlen : k < len
    · by_cases h200 : k < 200
      · have hki : (k : Int) < len := by omega
        have hk2 : (k : Int) < 200 := by omega
        obtain ⟨b, off, rfl, hb, m0, m1, m2, m3, l1, l2, l3⟩ := HZ.out.2 k hlen
        generalize (z k).1 = out at *
        generalize (z k).2.1 = mu at *
        generalize (z k).2.2.1 = mvv at *
        generalize (z k).2.2.2 = ms at *
        have hFW := HR.out.1.fr
        have n0 := hFW.cell m0 (by simp); have n1 := hFW.cell m1 (by simp); have n2 := hFW.cell m2 (by simp); have n3 := hFW.cell m3 (by simp)
        clear hFW m0 m1 m2 m3
        have hrow := HR.out.2.1
        have hLl := HR.out.2.2.len HR.out.1.ok
        obtain ⟨av, cv, rfl⟩ := hrow.slice
        clear hrow
        cases out with
        | true =>
          go_wp2_with fail
          obtain ⟨sl, hsl⟩ : ∃ sl : Nat, sl = ms % 20 := ⟨_, rfl⟩
          have hsl20 : sl < 20 := by omega
          rw [show (ms : Int) % 20 = (sl : Int) by omega]
          clear hsl n0 n1 n2 n3
          refine (sg_rem HR.out.1 sl).mono ?_
          rintro _ w2 ⟨rfl, hS2, hG2⟩
          have hr2 := hG2.rowV HR.out.2.1 (fun q hq => by simpa using hq)
          obtain ⟨e, he⟩ : ∃ e, e = s.got sl := ⟨_, rfl⟩
          rw [← he]
          have hb3 := Blk.new w2 (lvC e) 34
          have hr3 := hr2.fr0 ((Fr.refl [] w2).alloc (.cells (lvC e).toArray 34))
          have hS3 := hS2.alloc (.cells (lvC e).toArray 34)
          have HE := Lib.hid he; clear he
          have HX := Lib.hid (And.intro hS3 (And.intro hr3 hb3)); clear hS3 hr3 hb3 hS2 hG2 hr2
          obtain ⟨code, hcode⟩ : ∃ code, code = s.remC sl := ⟨_, rfl⟩
          rw [← hcode]
          have HCD := Lib.hid hcode; clear hcode
          go_wp2_with fail
          have hw : w2.alloc (.cells #[.int .i64 e.slot, .int .u64 e.seq, .int .u64 e.u, .int .u64 e.v, .int .i64 e.wt, .int .i64 e.t, .int .i64 e.x] 34) = w2.alloc (.cells (lvC e).toArray 34) := rfl
          rw [hw]; clear hw
          obtain ⟨xb, hxb⟩ : ∃ xb, xb = w2.heap.size := ⟨_, rfl⟩
          rw [← hxb] at HX ⊢
          clear hxb
          generalize w2.alloc (.cells (lvC e).toArray 34) = w3 at *
          go_loopw [13, 14] (fun x y wq => w3 = wq ∧ ∃ i : Nat, i ≤ s.L.length ∧ y = .int .i64 i ∧ x = .int .i64 (atI s.L sl i)) (fun _ y _ => s.L.length - (intOf y).toNat)
          case atStart => exact ⟨rfl, 0, Nat.zero_le _, rfl, rfl⟩
          case round =>
            obtain ⟨rfl, i, hi, rfl, rfl⟩ := hrel
            by_cases hil : i < s.L.length
            · obtain ⟨bv, cv', ev, _, _, _, hat⟩ := HX.out.2.1.at hil
              simp only [Value.slice.injEq, true_and] at ev
              obtain ⟨rfl, rfl⟩ := ev
              have x0 := hat.1
              have hii : (i : Int) < s.L.length := by omega
              have hnext : atI s.L sl (i + 1) = if (s.L[i]'hil).slot = sl then (i : Int) else atI s.L sl i := by
                show (if (s.L[i]?.map (·.slot)) = some sl then (i : Int) else atI s.L sl i) = _
                rw [List.getElem?_eq_getElem hil]; simp
              have HNX := Lib.hid hnext; clear hnext hat
              generalize (s.L[i]'hil).slot = ys at *
              by_cases hys : ys = sl
              · have d1 : ((ys : Int) == (sl : Int)) = true := by rw [hys]; simp
                have HYS := Lib.hid hys; clear hys
                go_wp2
                go_roundw
                case rel => exact ⟨trivial, i + 1, by omega, by go_num, by rw [HNX.out, if_pos HYS.out]⟩
                case measure => simp [intOf]; omega
              · have d1 : ((ys : Int) == (sl : Int)) = false := by simp; omega
                have HYS := Lib.hid hys; clear hys
                go_wp2
                go_roundw
                case rel => exact ⟨trivial, i + 1, by omega, by go_num, by rw [HNX.out, if_neg HYS.out]⟩
                case measure => simp [intOf]; omega
            · obtain rfl : i = s.L.length := by omega
              cases hh : s.has sl with
              | true =>
                obtain rfl : code = 0 := HCD.out.trans (if_pos hh)
                obtain ⟨j, hj, hat, hge, hL⟩ := has_at HR.out.1.ok hh
                rw [← HE.out] at hge
                have hS : s.remS sl = s.rem sl := if_pos hh
                rw [hS] at HX
                rw [hat]
                obtain ⟨bv, cv', ev, _, hbv, _, hat7⟩ := HX.out.2.1.at hj
                simp only [Value.slice.injEq, true_and] at ev
                obtain ⟨rfl, rfl⟩ := ev
                rw [hge] at hat7
                obtain ⟨x0, x1, x2, x3, x4, x5, x6⟩ := hat7
                have y := HX.out.2.2.cell
                have y0 := y 0; have y1 := y 1; have y2 := y 2; have y3 := y 3; have y4 := y 4; have y5 := y 5; have y6 := y 6
                simp only [lvC, List.getElem?_cons_zero, List.getElem?_cons_succ] at y0 y1 y2 y3 y4 y5 y6
                have HJ := Lib.hid (And.intro hat (And.intro hge hL)); clear hat hge hL hh hS y
                have hji : (j : Int) < s.L.length := by omega
                have hj0 : (0 : Int) ≤ j := by omega
                have hee : lvEq e e = true := decide_eq_true rfl
                go_wp2_with fail
                go_quiet (fail)
                go_wp2_with fail
                clear x0 x1 x2 x3 x4 x5 x6 y0 y1 y2 y3 y4 y5 y6
                rename Nat => nq
                have hsd := (HX.out.1.sub (Y := (Value.slice (some ⟨bv, 0, none⟩) s.L.length cv).ownBlock.toList) (fun y hy => List.mem_cons_of_mem _ hy)).go0 (Fr.of_drewN _ nq)
                have hrd := HX.out.2.1.fr0 (Fr.of_drewN _ nq)
                have hbd := hrd.lt (q := bv) rfl
                clear HX
                generalize w3.drewN nq = wd at *
                have hcv : s.L.length ≤ cv := by
                  obtain ⟨_, _, e1, h1, _⟩ := hrd.at hj
                  simp only [Value.slice.injEq, true_and] at e1
                  obtain ⟨_, rfl⟩ := e1
                  exact h1
                have hfa : Fr [] wd (wd.alloc (.cells #[] 34)).drew := ((Fr.refl [] wd).alloc _).drew
                have hra := hrd.fr0 hfa
                have hmt : (wd.alloc (.cells #[] 34)).drew.ownsRow 0 34 7 (.slice (some ⟨wd.heap.size, 0, none⟩) 0 0) 0 [] := ⟨rfl, .inr ⟨wd.heap.size, 0, #[], rfl, Nat.zero_le _, World.alloc_heap_new wd _, Nat.le_refl _, Nat.zero_le _, rfl, rfl⟩⟩
                have hp1 := hra.part 0 j (by omega)
                rw [Nat.zero_mul, List.drop_zero] at hp1
                have hl1 : (rowV (s.L.take j)).length = j * 7 := by rw [rowV_len, List.length_take]; congr 1; omega
                have HA := Lib.hid (And.intro hfa (And.intro hra (And.intro hmt (And.intro hp1 hl1)))); clear hfa hra hmt hp1 hl1
                have HD := Lib.hid (And.intro hsd hrd); clear hsd hrd
                have hjc : (j : Int) ≤ cv := by omega
                have hj1 : IntKind.i64.wrap ((j : Int) + 1) = (j : Int) + 1 := by simp [IntKind.wrap, IntKind.bits, IntKind.signed]; omega
                have hj2 : (j : Int) + 1 ≤ s.L.length := by omega
                have hj3 : ((j : Int) + 1).toNat = j + 1 := by omega
                have hj4 : (0 : Int) ≤ (j : Int) + 1 := by omega
                have hj5 : (s.L.length : Int) ≤ cv := by omega
                obtain ⟨AA, hAA, hPP⟩ : ∃ AA : Addr, (if cv = j + 1 then some (⟨bv, 0, none⟩ : Addr) else some ⟨bv, (j + 1) * 7, none⟩) = some AA ∧ Hid (∀ w', RowV w' (.slice (some ⟨bv, 0, none⟩) s.L.length cv) s.L → ∀ jj u, (rowV (s.L.drop (j + 1)))[jj]? = some u → w'.cell? (AA.add jj) = some u) := by
                  by_cases hcap : cv = j + 1
                  · refine ⟨⟨bv, 0, none⟩, if_pos hcap, Lib.hid (fun w' _ jj u hu => ?_)⟩
                    rw [List.drop_eq_nil_of_le (by omega)] at hu
                    simp [rowV] at hu
                  · refine ⟨⟨bv, (j + 1) * 7, none⟩, if_neg hcap, Lib.hid (fun w' hr jj u hu => hr.part (j + 1) (s.L.length - (j + 1)) (by omega) jj u ?_)⟩
                    rw [List.take_of_length_le (by simp)]
                    exact hu
                have HL2 := Lib.hid (show (rowV (s.L.drop (j + 1))).length = (s.L.length - (j + 1)) * 7 by rw [rowV_len, List.length_drop])
                have HBV := Lib.hid (show ∀ v5 : Value, (v5.ownBlock = some wd.heap.size ∨ v5.ownBlock = some (wd.alloc (.cells #[] 34)).drew.heap.size) → v5.ownBlock ≠ some bv from fun v5 h5 hm => by
                  have hsz : (wd.alloc (.cells #[] 34)).drew.heap.size = wd.heap.size + 1 := by simp
                  rw [hm, hsz] at h5
                  simp only [Option.some.injEq] at h5
                  omega)
                go_region_held3 (fun w' => Hid (RowV w' (.slice (some ⟨bv, 0, none⟩) s.L.length cv) s.L))
                  (first
                    | with_reducible exact HRx
                    | with_reducible exact Lib.hid (HD.out.2.fr0 ((Fr.refl [] wd).drew))
                    | with_reducible exact Lib.hid HA.out.2.1
                    | go_keep)
                  (first
                    | (refine step_app_at (by rfl) _ _ _ (by rfl) 34 lvZero 7 56 Try.underlying24 Try.info34 (by rfl) (by decide) _ _ _ (by rfl) HA.out.2.2.1 ⟨bv, 0, none⟩ j cv _ (by rfl) HA.out.2.2.2.2 HA.out.2.2.2.1 (rowV_one _) (by omega) (by decide) ?_; intro v5 w5 hown5 hgrow5 hq5
                       have hF5 : Fr [wd.heap.size] (wd.alloc (.cells #[] 34)).drew w5 := (Fr.refl _ _).grown hgrow5 (fun q e => .inl (by simp [Value.ownBlock] at e; simp [e]))
                       have HRx : Hid (RowV w5 (.slice (some ⟨bv, 0, none⟩) s.L.length cv) s.L) := Lib.hid (HA.out.2.1.fr hF5 (fun q hq hm => by simp [Value.ownBlock] at hq; rw [List.mem_singleton] at hm; omega)))
                    | (refine step_app_at (by rfl) _ _ _ (by rfl) 34 lvZero 7 56 Try.underlying24 Try.info34 (by rfl) (by decide) _ _ _ (by rfl) hown5 AA (s.L.length - (j + 1)) (cv - (j + 1)) (rowV (s.L.drop (j + 1))) (by rfl) HL2.out (hPP.out _ HRx.out) (rowV_one _) (by omega) (by decide) ?_; intro v6 w6 hown6 hgrow6 hq6
                       have hF6 : Fr v5.ownBlock.toList w5 w6 := (Fr.refl _ _).grown hgrow6 (fun q e => .inl (by simp [e]))
                       have HRx : Hid (RowV w6 (.slice (some ⟨bv, 0, none⟩) s.L.length cv) s.L) := Lib.hid (HRx.out.fr hF6 (fun q hq hm => HBV.out v5 hq5 (by simp [Value.ownBlock] at hq; subst hq; simpa using hm)))))
                all_goals
                  go_wp2_with fail
                  have hsz : (wd.alloc (.cells #[] 34)).drew.heap.size = wd.heap.size + 1 := by simp
                  have hs5 := hF5.size
                  have hv5 : ∀ q, v5.ownBlock = some q → wd.heap.size ≤ q := fun q hq => by
                    rcases hq5 with h | h
                    · rw [h] at hq; simp [Value.ownBlock] at hq; omega
                    · rw [h, hsz] at hq; simp at hq; omega
                  have hFt : Fr [] wd w6 := (HA.out.1.trans hF5 (fun q hq => .inr (by rw [List.mem_singleton] at hq; omega))).trans hF6 (fun q hq => .inr (hv5 q (by simpa using hq)))
                  have hr6 : RowV w6 v6 (s.rem sl).L := by
                    rw [HJ.out.2.2]
                    unfold RowV
                    rw [rowV_app, List.length_append, List.length_take, List.length_drop]
                    have := hown6
                    rw [Nat.zero_add, List.nil_append] at this
                    rw [show min j s.L.length = j by omega]
                    exact this
                  refine ⟨⟨k + 1, s.rem sl, v6, by omega, by go_num, rfl, rfl, Lib.hid ⟨HD.out.1.go hFt (by simp) (fun y hy => .inr ⟨?_, hr6.lt (by simpa using hy)⟩), hr6, (HR.out.2.2.rem sl).mono (Nat.le_succ _)⟩⟩, by simp [intOf]; omega⟩
                  have hy' : v6.ownBlock = some y := by simpa using hy
                  rcases hq6 with h | h
                  · rw [h] at hy'; exact hv5 y hy'
                  · rw [h] at hy'; simp at hy'; omega
              | false =>
                have hc5 : code = 5 := by
                  rw [HCD.out]
                  unfold Sm.remC
                  rw [if_neg (by rw [hh]; simp), if_neg (by rw [HR.out.2.2.E]; omega)]
                subst hc5
                have hat := has_not hh
                rw [hat]
                have hS : s.remS sl = s := if_neg (by rw [hh]; simp)
                rw [hS] at HX
                clear hh hS hat
                go_wp2_with fail
                go_quiet (fail)
                go_wp2_with fail
                exact ⟨⟨k + 1, s, _, by omega, by go_num, rfl, rfl, Lib.hid ⟨(HX.out.1.sub (fun y hy => List.mem_cons_of_mem _ hy)).go0 (Fr.of_drewN _ _), HX.out.2.1.fr0 (Fr.of_drewN _ _), HR.out.2.2.mono (Nat.le_succ _)⟩⟩, by simp [intOf]; omega⟩
        | false =>
          have hu16 : ((mu : Int) % 16) = ((mu % 16 : Nat) : Int) := by omega
          have hv16 : ((mvv : Int) % 16) = ((mvv % 16 : Nat) : Int) := by omega
          have hlu : mu % 16 < 16 := Nat.mod_lt _ (by omega)
          have hlv : mvv % 16 < 16 := Nat.mod_lt _ (by omega)
          have hwu : IntKind.u64.wrap ((mu : Int).tmod 16) = ((mu % 16 : Nat) : Int) := by rw [Int.tmod_eq_emod_of_nonneg (by omega)]; simp [IntKind.wrap, IntKind.bits, IntKind.signed]; omega
          have hwv : IntKind.u64.wrap ((mvv : Int).tmod 16) = ((mvv % 16 : Nat) : Int) := by rw [Int.tmod_eq_emod_of_nonneg (by omega)]; simp [IntKind.wrap, IntKind.bits, IntKind.signed]; omega
          generalize mu % 16 = u at *
          generalize mvv % 16 = vv at *
          have hb0 : b < wr.heap.size := by have := HR.out.1.size; omega
          have HN := Lib.hid (show ∀ w', Fr [] wr w' → w'.cell? ⟨b, off + k * 4 + 1, none⟩ = some (.int .u8 mu) ∧ w'.cell? ⟨b, off + k * 4 + 2, none⟩ = some (.int .u8 mvv) from fun w' hf => ⟨hf.cell n1 (by simp), hf.cell n2 (by simp)⟩)
          go_wp2_with fail
          go_region_held3 (fun w' => w'.cell? ⟨b, off + k * 4 + 1, none⟩ = some (.int .u8 mu) ∧ w'.cell? ⟨b, off + k * 4 + 2, none⟩ = some (.int .u8 mvv))
            (first
              | with_reducible exact HN.out _ ((Fr.refl [] wr).drew)
              | with_reducible exact HN.out _ (((Fr.refl [] wr).alloc _).drew)
              | go_keep)
            (fail)
          have hb4 := (Blk.new wr [.int .u64 u, .int .u64 vv, .int .i64 k, .int .i64 k] 32).drew
          have hf4 : Fr [] wr (wr.alloc (.cells #[.int .u64 u, .int .u64 vv, .int .i64 k, .int .i64 k] 32)).drew := ((Fr.refl [] wr).alloc _).drew
          have hS4 := (HR.out.1.alloc (.cells #[.int .u64 u, .int .u64 vv, .int .i64 k, .int .i64 k] 32)).go0 ((Fr.refl [] _).drew)
          have hr4 := HR.out.2.1.fr0 hf4
          have hb4 : Blk (wr.alloc (.cells #[.int .u64 u, .int .u64 vv, .int .i64 k, .int .i64 k] 32)).drew wr.heap.size 32 [.int .u64 u, .int .u64 vv, .int .i64 k, .int .i64 k] := hb4
          obtain ⟨rb, hrb⟩ : ∃ rb, rb = wr.heap.size := ⟨_, rfl⟩
          rw [← hrb] at hb4 hS4 ⊢
          have hbd := HR.out.2.2
          clear hrb hf4 HN hwu hwv hb0 n0 n1 n2 n3 HR
          generalize (wr.alloc (.cells #[.int .u64 u, .int .u64 vv, .int .i64 k, .int .i64 k] 32)).drew = w4 at *
          have HBD := Lib.hid hbd
          have HC := Lib.hid (sg_check hS4 u vv k k (by omega) (by omega))
          have HI := Lib.hid (fun (w5 : World) (h5 : SG W w5 ps s (rb :: (Value.slice av s.L.length cv).ownBlock.toList)) => sg_ins h5 u vv k k (k + 5) (by omega) (by omega) (by have := HBD.out.last; omega))
          have HR4 := Lib.hid (And.intro hr4 hb4)
          have q0 := hb4.cell 0; have q1 := hb4.cell 1; have q2 := hb4.cell 2; have q3 := hb4.cell 3
          simp only [List.getElem?_cons_zero, List.getElem?_cons_succ] at q0 q1 q2 q3
          clear hr4 hb4 hS4 hbd
          have hk5 : IntKind.i64.wrap ((k : Int) + 5) = (k : Int) + 5 := by simp [IntKind.wrap, IntKind.bits, IntKind.signed]; omega
          go_wp2_with fail
          refine HC.out.mono ?_
          rintro _ w5 ⟨rfl, hS5, hF5⟩
          have q0' := hF5.cell q0 (by simp); have q1' := hF5.cell q1 (by simp); have q2' := hF5.cell q2 (by simp); have q3' := hF5.cell q3 (by simp)
          clear q0 q1 q2 q3 HC
          have HI5 := Lib.hid (HI.out w5 hS5); clear HI hS5
          have HR5 := Lib.hid (And.intro (HR4.out.1.fr0 hF5) (hF5.blk HR4.out.2 (by simp))); clear HR4 hF5
          go_wp2_with fail
          refine HI5.out.mono ?_
          rintro _ w6 ⟨rfl, hS6, hG6⟩
          clear HI5 q0' q1' q2' q3'
          have hr6 := hG6.rowV HR5.out.1 (fun q hq => List.mem_cons_of_mem _ (by simpa using hq))
          have hb6 := hG6.blk HR5.out.2 (List.mem_cons_self ..)
          by_cases hc : s.chk u vv = 0
          · obtain ⟨sl, hsl⟩ : ∃ sl, sl = s.slot := ⟨_, rfl⟩
            obtain ⟨q1, hq1⟩ : ∃ q1, q1 = s.last + 1 := ⟨_, rfl⟩
            have hed : s.edge u vv k k (k + 5) = ⟨sl, q1, u, vv, k, k, k + 5⟩ := by unfold Sm.edge; rw [hsl, hq1]
            have hir : s.insR u vv k k (k + 5) = ⟨sl, q1, u, vv, k, k, k + 5⟩ := (if_pos hc).trans hed
            have his : s.insS u vv k k (k + 5) = s.ins u vv k k (k + 5) := if_pos hc
            rw [his] at hS6
            rw [hir, hc]
            have hlw : IntKind.u64.wrap ((s.last : Int) + 1) = (q1 : Int) := by
              have := HBD.out.last
              simp [IntKind.wrap, IntKind.bits, IntKind.signed]; omega
            have hf7 : Fr [] w6 (w6.alloc (.cells #[.int .i64 sl, .int .u64 q1, .int .u64 u, .int .u64 vv, .int .i64 k, .int .i64 k, .int .i64 (k + 5)] 34)) := (Fr.refl [] w6).alloc _
            have hb7 := hf7.blk hb6 (by simp)
            have hr7 := hr6.fr0 hf7
            have hS7 := hS6.alloc (.cells #[.int .i64 sl, .int .u64 q1, .int .u64 u, .int .u64 vv, .int .i64 k, .int .i64 k, .int .i64 (k + 5)] 34)
            have q0 := hb7.cell 0; have q1' := hb7.cell 1; have q2 := hb7.cell 2; have q3 := hb7.cell 3
            simp only [List.getElem?_cons_zero, List.getElem?_cons_succ] at q0 q1' q2 q3
            have hrow : ((w6.alloc (.cells #[.int .i64 sl, .int .u64 q1, .int .u64 u, .int .u64 vv, .int .i64 k, .int .i64 k, .int .i64 (k + 5)] 34)).alloc (.cells (lvC ⟨sl, q1, u, vv, k, k, k + 5⟩).toArray 34)).ownsRow 0 34 7 (.slice av s.L.length cv) s.L.length (rowV s.L) := hr7.fr0 ((Fr.refl [] _).alloc _)
            have HZ' := Lib.hid (Blk.new (w6.alloc (.cells #[.int .i64 sl, .int .u64 q1, .int .u64 u, .int .u64 vv, .int .i64 k, .int .i64 k, .int .i64 (k + 5)] 34)) (lvC ⟨sl, q1, u, vv, k, k, k + 5⟩) 34)
            have HRW := Lib.hid hrow
            have HH7 := Lib.hid (And.intro hS7 (And.intro hed (And.intro hq1 hc)))
            have H7 := Lib.hid (show ∀ y ∈ lvC ⟨sl, q1, u, vv, k, k, k + 5⟩, y.oneCell' = true from fun y hy => by simp [lvC] at hy; rcases hy with rfl | rfl | rfl | rfl | rfl | rfl | rfl <;> rfl)
            have HF7 := Lib.hid hf7
            clear hrow hS7 hed hq1 hc hsl hir his hS6 hG6 hr6 hb6 hb7 hr7 hf7
            dsimp only
            go_wp2_with (first | (at_builtin; refine wpList_appK rfl _ _ 24 rfl 34 lvZero 7 56 Try.underlying24 Try.info34 rfl (by decide) (.slice av s.L.length cv) s.L.length _ rfl HRW.out (w6.alloc (.cells #[.int .i64 sl, .int .u64 q1, .int .u64 u, .int .u64 vv, .int .i64 k, .int .i64 k, .int .i64 (k + 5)] 34)).heap.size 34 (lvC ⟨sl, q1, u, vv, k, k, k + 5⟩) (by simp; rfl) HZ'.out rfl H7.out (by omega) (by decide) ?_; intro g8 cap8 w8 hown8 hgrow8 hg8; have hF8 := (Fr.refl (Value.slice av s.L.length cv).ownBlock.toList _).grown hgrow8 (fun q e => .inl (by simp [e]))) | fail)
            have hFt : Fr (Value.slice av s.L.length cv).ownBlock.toList (w6.alloc (.cells #[.int .i64 sl, .int .u64 q1, .int .u64 u, .int .u64 vv, .int .i64 k, .int .i64 k, .int .i64 (k + 5)] 34)) w8 := ((Fr.refl _ _).alloc _).trans' hF8
            have hs8 := hF8.size
            have hr8 : RowV w8 (.slice (some ⟨g8, 0, none⟩) (s.L.length + 1) cap8) (s.ins u vv k k (k + 5)).L := by
              show RowV w8 _ (s.L ++ [s.edge u vv k k (k + 5)])
              rw [HH7.out.2.1]
              unfold RowV
              rw [rowV_snoc, List.length_append]
              exact hown8
            refine ⟨⟨k + 1, s.ins u vv k k (k + 5), _, by omega, by go_num, by rw [HH7.out.2.2.1]; rfl, rfl, Lib.hid ⟨HH7.out.1.go hFt (fun x hx => .inl (List.mem_cons_of_mem _ (List.mem_cons_of_mem _ hx))) (fun y hy => ?_), hr8, HBD.out.ins (by assumption) (by assumption) _ _ _⟩⟩, by simp [intOf]; omega⟩
            have hy' : y = g8 := by simpa [Value.ownBlock] using hy
            subst hy'
            rcases hg8 with h | h
            · exact .inl (List.mem_cons_of_mem _ (List.mem_cons_of_mem _ (by simpa using h)))
            · refine .inr ⟨?_, hr8.lt rfl⟩
              simp only [World.size_alloc] at h ⊢
              omega
          · have hir : s.insR u vv k k (k + 5) = Lv.z := if_neg hc
            have his : s.insS u vv k k (k + 5) = s := if_neg hc
            rw [his] at hS6
            rw [hir]
            have d1 : ((s.chk u vv : Int) == 0) = false := by simp; omega
            have d2 : ((s.chk u vv : Int) != 0) = true := by simp; omega
            simp only [Lv.z, lvA]
            go_wp2_with fail
            all_goals exact ⟨⟨k + 1, s, _, by omega, by go_num, rfl, rfl, Lib.hid ⟨(hS6.alloc _).sub (fun y hy => List.mem_cons_of_mem _ (List.mem_cons_of_mem _ hy)), hr6.fr0 ((Fr.refl [] _).alloc _), HBD.out.mono (Nat.le_succ _)⟩⟩, by simp [intOf]; omega⟩
      · have hk2 : ¬ ((k : Int) < 200) := by omega
        have hki : (k : Int) < len := by omega
        go_wp2_with fail
        refine bodyPost_ret (v := .tuple #[sptr ps, v, .bool true]) (by simp [results, Try.results10, go_sem]) rfl ?_
        exact ⟨ps, s, v, rfl, HR.out.1, HR.out.2.1, HR.out.2.2.mono hk⟩
    · have hki : ¬ ((k : Int) < len) := by omega
      go_wp2_with fail
      refine bodyPost_ret (v := .tuple #[sptr ps, v, .bool true]) (by simp [results, Try.results10, go_sem]) rfl ?_
      exact ⟨ps, s, v, rfl, HR.out.1, HR.out.2.1, HR.out.2.2.mono hk⟩
end Go.Proofs.Ytbegdgnhpklceaa

/- store laws: ids. -/
namespace Go.Proofs.Ytbegdgnhpklceaa
open Go.RowKit
set_option maxRecDepth 10000
set_option maxHeartbeats 1600000

def idsN (l : List Lv) (n : Nat) : List Nat := (List.range n).filter fun id => l.any fun e => e.at id
def idsOf (l : List Lv) : List Nat := idsN l 16
theorem idsN_succ (l : List Lv) (n : Nat) : idsN l (n + 1) = idsN l n ++ if l.any (fun e => e.at n) = true then [n] else [] := by
  unfold idsN
  rw [List.range_succ, List.filter_append]
  congr 1
  cases h : l.any (fun e => e.at n) <;> simp [h]
theorem idsN_len (l : List Lv) (n : Nat) : (idsN l n).length ≤ n := Nat.le_trans (List.length_filter_le _ _) (by simp)
theorem idsN_sorted (l : List Lv) (n : Nat) : (idsN l n).Pairwise (· < ·) := List.pairwise_lt_range.filter _
theorem mem_idsN {l : List Lv} {n id : Nat} : id ∈ idsN l n ↔ id < n ∧ ∃ e ∈ l, e.at id = true := by
  unfold idsN; simp
theorem ids_of {s : Sm} (h : s.Ok) (hb : ∀ e ∈ s.L, e.u < 16 ∧ e.v < 16) : s.ids = idsOf s.L := by
  have hp : (s.M.L.map (·.1)).Perm (idsOf s.L) := by
    refine (List.perm_ext_iff_of_nodup h.md.ids ((idsN_sorted _ _).imp (fun h => by omega))).2 fun id => ?_
    have h1 : id ∈ s.M.L.map (·.1) ↔ (s.M.find id).isSome = true := by
      rw [List.mem_map, Option.isSome_iff_exists]
      constructor
      · rintro ⟨⟨a, i⟩, hx, rfl⟩; exact ⟨i, (Md.find_iff h.md).2 hx⟩
      · rintro ⟨i, hi⟩; exact ⟨(id, i), Md.find_mem hi, rfl⟩
    rw [h1, h.vert]
    show _ ↔ id ∈ idsN s.L 16
    rw [mem_idsN]
    constructor
    · intro hne
      obtain ⟨x, hx⟩ := List.exists_mem_of_ne_nil _ hne
      obtain ⟨e, he, hat, _⟩ := mem_incL.1 hx
      refine ⟨?_, e, he, hat⟩
      have := hb e he
      simp [Lv.at] at hat
      omega
    · rintro ⟨_, e, he, hat⟩
      exact List.ne_nil_of_mem (mem_incL.2 ⟨e, he, hat, rfl⟩)
  unfold Sm.ids
  rw [sortN_eq hp]
  exact (sortN_perm _).eq_of_pairwise (le := fun x y => decide (x ≤ y)) (fun a b _ _ h1 h2 => by simp at *; omega) ((sortN_le _).imp (fun h => by simpa using h)) ((idsN_sorted _ _).imp (fun h => by simp; omega))

theorem ids_w {w : World} {v : Value} {l : List Lv} (h : RowV w v l) (hn : l.length ≤ 65536) :
    Calls Try.prog 16 #[v] w fun e w' => ∃ v', e = .returned v' ∧ RowU w' v' (idsOf l) ∧ (∀ q, v'.ownBlock = some q → w.heap.size ≤ q) ∧ Fr [] w w' := by
  obtain ⟨av, cv, rfl⟩ := h.slice
  have HV := Lib.hid h; clear h
  go_enter Try.func16, Try.ntmps16
  go_wp2_with fail
  go_loopw [3, 4] (fun x y wr => ∃ (d : Nat) (v' : Value), d ≤ 16 ∧ y = .int .u64 d ∧ v' = x ∧ Hid (RowU wr v' (idsN l d) ∧ (∀ q, v'.ownBlock = some q → w.heap.size ≤ q) ∧ Fr [] w wr)) (fun _ y _ => 16 - (intOf y).toNat)
  case atStart => exact ⟨0, nilS, by omega, rfl, rfl, Lib.hid ⟨⟨rfl, .inl ⟨rfl, rfl⟩⟩, fun q e => (by cases e), Fr.refl _ _⟩⟩
  case round =>
    obtain ⟨d, v', hd, rfl, rfl, HS⟩ := hrel
    rename World => wr
    by_cases hlt : d < 16
    · have hdi : (d : Int) < 16 := by omega
      have hsu := idsN_succ l d
      have HSU := Lib.hid hsu; clear hsu
      go_wp2_with fail
      go_loopw [3, 5] (fun x z wq => v' = x ∧ wr = wq ∧ ∃ i : Nat, i ≤ l.length ∧ z = .int .i64 i ∧ Hid (∀ j (hj : j < l.length), j < i → (l[j]).at d = false)) (fun _ z _ => l.length - (intOf z).toNat)
      case atStart => exact ⟨rfl, rfl, 0, Nat.zero_le _, rfl, Lib.hid (fun j _ hj => absurd hj (Nat.not_lt_zero _))⟩
      case round =>
        obtain ⟨rfl, rfl, i, hi, rfl, HT⟩ := hrel
        by_cases hil : i < l.length
        · have hii : (i : Int) < l.length := by omega
          obtain ⟨b, cv', ev, _, _, _, hat⟩ := (HV.out.fr0 HS.out.2.2).at hil
          simp only [Value.slice.injEq, true_and] at ev
          obtain ⟨rfl, rfl⟩ := ev
          obtain ⟨e, he⟩ : ∃ e, e = l[i] := ⟨_, rfl⟩
          rw [← he] at hat
          have x2 := hat.2.2.1
          have x3 := hat.2.2.2.1
          have HE := Lib.hid he; clear he hat
          cases hea : e.at d with
          | false =>
            have hea' := hea
            simp only [Lv.at, Bool.or_eq_false_iff, beq_eq_false_iff_ne] at hea'
            have d1 : ((e.u : Int) == (d : Int)) = false := by simp; omega
            have d2 : ((e.v : Int) == (d : Int)) = false := by simp; omega
            have HEA := Lib.hid hea; clear hea hea'
            go_wp2_with fail
            exact ⟨⟨rfl, trivial, i + 1, by omega, by go_num, Lib.hid (fun j hj hji => by
              by_cases e1 : j = i
              · subst e1; rw [← HE.out]; exact HEA.out
              · exact HT.out j hj (by omega))⟩, by simp [intOf]; omega⟩
          | true =>
            have hyes : l.any (fun e => e.at d) = true := List.any_eq_true.2 ⟨e, by rw [HE.out]; exact List.getElem_mem hil, hea⟩
            rw [if_pos hyes] at HSU
            have hur := HS.out.1
            obtain ⟨au, cu, rfl⟩ := hur.slice
            have hul := idsN_len l d
            have hrow : (wr.alloc (.cells #[.int .u64 d] 30)).ownsRow 0 30 1 (.slice au (idsN l d).length cu) (idsN l d).length (encId (idsN l d)) := hur.fr0 ((Fr.refl [] wr).alloc _)
            have HRW := Lib.hid hrow; clear hrow hur hyes
            have HB := Lib.hid (show Blk (wr.alloc (.cells #[.int .u64 d] 30)) wr.heap.size 30 [.int .u64 d] from Blk.new wr [.int .u64 d] 30)
            have hcase : (e.u : Int) = d ∨ (¬ (e.u : Int) = d ∧ (e.v : Int) = d) := by
              simp only [Lv.at, Bool.or_eq_true, beq_iff_eq] at hea
              omega
            clear hea
            rcases hcase with h1 | ⟨h1, h2⟩
            · go_wp2_with (first | (at_builtin; refine wpList_appK rfl _ _ 39 rfl 30 (.int .u64 0) 1 8 Try.underlying39 Try.info30 rfl (by decide) (.slice au (idsN l d).length cu) (idsN l d).length _ rfl HRW.out wr.heap.size 30 [.int .u64 d] rfl HB.out rfl (by simp [Value.oneCell']) (by omega) (by decide) ?_; intro g8 cap8 w8 hown8 hgrow8 hg8) | fail)
              have hF8 : Fr (Value.slice au (idsN l d).length cu).ownBlock.toList (wr.alloc (.cells #[.int .u64 d] 30)) w8 := (Fr.refl _ _).grown hgrow8 (fun q e => .inl (by simp [e]))
              have hs0 := HS.out.2.2.size
              refine ⟨⟨d + 1, _, by omega, by go_num, rfl, Lib.hid ⟨?_, fun q hq => ?_, ?_⟩⟩, by simp [intOf]; omega⟩
              · rw [HSU.out]
                unfold RowU
                rw [List.length_append]
                have : encId (idsN l d ++ [d]) = encId (idsN l d) ++ [.int .u64 d] := by simp [encId]
                rw [this]
                exact hown8
              · simp only [Value.ownBlock, Option.some.injEq] at hq
                subst hq
                rcases hg8 with h | h
                · exact HS.out.2.1 _ h
                · simp only [World.size_alloc] at h; omega
              · exact (HS.out.2.2.alloc _).trans hF8 (fun q hq => .inr (HS.out.2.1 q (by simpa using hq)))
            · go_wp2_with (first | (at_builtin; refine wpList_appK rfl _ _ 39 rfl 30 (.int .u64 0) 1 8 Try.underlying39 Try.info30 rfl (by decide) (.slice au (idsN l d).length cu) (idsN l d).length _ rfl HRW.out wr.heap.size 30 [.int .u64 d] rfl HB.out rfl (by simp [Value.oneCell']) (by omega) (by decide) ?_; intro g8 cap8 w8 hown8 hgrow8 hg8) | fail)
              have hF8 : Fr (Value.slice au (idsN l d).length cu).ownBlock.toList (wr.alloc (.cells #[.int .u64 d] 30)) w8 := (Fr.refl _ _).grown hgrow8 (fun q e => .inl (by simp [e]))
              have hs0 := HS.out.2.2.size
              refine ⟨⟨d + 1, _, by omega, by go_num, rfl, Lib.hid ⟨?_, fun q hq => ?_, ?_⟩⟩, by simp [intOf]; omega⟩
              · rw [HSU.out]
                unfold RowU
                rw [List.length_append]
                have : encId (idsN l d ++ [d]) = encId (idsN l d) ++ [.int .u64 d] := by simp [encId]
                rw [this]
                exact hown8
              · simp only [Value.ownBlock, Option.some.injEq] at hq
                subst hq
                rcases hg8 with h | h
                · exact HS.out.2.1 _ h
                · simp only [World.size_alloc] at h; omega
              · exact (HS.out.2.2.alloc _).trans hF8 (fun q hq => .inr (HS.out.2.1 q (by simpa using hq)))
        · obtain rfl : i = l.length := by omega
          have hno : l.any (fun e => e.at d) = false := by
            rw [List.any_eq_false]
            intro e he
            obtain ⟨j, hj, rfl⟩ := List.getElem_of_mem he
            rw [HT.out j hj hj]; simp
          rw [if_neg (by rw [hno]; simp), List.append_nil] at HSU
          clear hno
          go_wp2_with fail
          exact ⟨⟨d + 1, v', by omega, by go_num, rfl, Lib.hid ⟨by rw [HSU.out]; exact HS.out.1, HS.out.2⟩⟩, by simp [intOf]; omega⟩
    · obtain rfl : d = 16 := by omega
      go_wp2_with fail
      go_ret
      exact ⟨v', rfl, HS.out⟩
end Go.Proofs.Ytbegdgnhpklceaa

/- StoreUndo: the walk. -/
namespace Go.Proofs.Ytbegdgnhpklceaa
open Go.RowKit
set_option maxRecDepth 10000
set_option maxHeartbeats 1600000

theorem mlen_congr {s s' : Sm} (h : s.Ok) (h' : s'.Ok) (hL : s'.L = s.L) : s'.M.L.length = s.M.L.length ∧ ∀ id, (s'.M.find id).isSome = (s.M.find id).isSome := by
  have hf : ∀ id, (s'.M.find id).isSome = (s.M.find id).isSome := fun id => by
    rw [Bool.eq_iff_iff, h.vert, h'.vert, hL]
  refine ⟨?_, hf⟩
  have hm : ∀ {m : Sm}, m.Ok → ∀ id, id ∈ m.M.L.map (·.1) ↔ (m.M.find id).isSome = true := fun {m} hm id => by
    rw [List.mem_map, Option.isSome_iff_exists]
    constructor
    · rintro ⟨⟨a, i⟩, hx, rfl⟩; exact ⟨i, (Md.find_iff hm.md).2 hx⟩
    · rintro ⟨i, hi⟩; exact ⟨(id, i), Md.find_mem hi, rfl⟩
  have hp : (s'.M.L.map (·.1)).Perm (s.M.L.map (·.1)) := (List.perm_ext_iff_of_nodup h'.md.ids h.md.ids).2 fun id => by rw [hm h', hm h, hf]
  simpa using hp.length_eq
theorem chk_congr {s s' : Sm} (h : s.Ok) (h' : s'.Ok) (hL : s'.L = s.L) (hV : s'.V = s.V) (hE : s'.E = s.E) (u v : Nat) : s'.chk u v = s.chk u v := by
  obtain ⟨h1, h2⟩ := mlen_congr h h' hL
  unfold Sm.chk Sm.more
  rw [Sm.len_used h, Sm.len_used h', hL, hV, hE, h1, h2, h2]
theorem slot_new {s : Sm} (h : s.Ok) {u v : Nat} (hc : s.chk u v = 0) : ∀ e ∈ s.L, e.slot ≠ s.slot := fun e he hs =>
  (Md.isUsed_alloc' h.ar (Sm.slot_next h hc)).1 ((h.used _).2 ⟨e, he, hs⟩)
theorem undo_L {s : Sm} (h : s.Ok) {u v : Nat} (hc : s.chk u v = 0) (wt t x : Int) : ((s.ins u v wt t x).rem s.slot).L = s.L := by
  show (s.L ++ [s.edge u v wt t x]).filter (fun e => e.slot != s.slot) = s.L
  rw [List.filter_append, List.filter_eq_self.2 (fun e he => by simpa using slot_new h hc e he)]
  simp [Sm.edge]
theorem undo_has {s : Sm} (h : s.Ok) {u v : Nat} (hu : u < U64) (hv : v < U64) (hc : s.chk u v = 0) (hl : s.last + 1 < U64) (wt t x : Int) : (s.ins u v wt t x).has s.slot = true ∧ (s.ins u v wt t x).got s.slot = s.edge u v wt t x :=
  (fun hok => ⟨(Sm.has_iff hok _).2 ⟨by omega, (hok.used _).2 ⟨s.edge u v wt t x, by simp [Sm.ins], by simp [Sm.edge]⟩⟩, by
    unfold Sm.got
    rw [if_pos (by omega), Int.toNat_natCast]
    exact liveAt_mem (e := s.edge u v wt t x) hok.one (by simp [Sm.ins])⟩) (Sm.ok_ins h hu hv hc hl wt t x)
theorem undo_slot (s : Sm) (u v : Nat) (wt t x : Int) : ((s.ins u v wt t x).rem s.slot).slot = s.slot := rfl

theorem Blk.fr0' {w w' : World} {b : Nat} {t : TypeId} {l : List Value} (h : Blk w b t l) (hf : Fr [] w w') : Blk w' b t l := hf.blk h (by simp)
theorem walk_storeUndo (W : World) (a : Option Addr) (len cap : Nat) (z : Nat → Bool × Nat × Nat × Nat) (hz : MovesF W a len z) (a1 : Int) (w1 : (Lit.int .u8 a1).wf = true) (a2 : Int) (w2 : (Lit.int .u8 a2).wf = true) :
    Calls Try.prog 6 #[.slice a len cap, .int .u8 a1, .int .u8 a2] W fun e w' => e = .returned (.bool true) ∧ Below W.heap.size W w' := by
  obtain ⟨mu, rfl, l1⟩ := u8_of_wf w1
  obtain ⟨mvv, rfl, l2⟩ := u8_of_wf w2
  have HM := Lib.hid (moved_w W a len cap z hz)
  have HWk := Lib.hid (fun w => works_w w)
  have hwu : IntKind.u64.wrap ((mu : Int).tmod 16) = ((mu % 16 : Nat) : Int) := by rw [Int.tmod_eq_emod_of_nonneg (by omega)]; simp [IntKind.wrap, IntKind.bits, IntKind.signed]; omega
  have hwv : IntKind.u64.wrap ((mvv : Int).tmod 16) = ((mvv % 16 : Nat) : Int) := by rw [Int.tmod_eq_emod_of_nonneg (by omega)]; simp [IntKind.wrap, IntKind.bits, IntKind.signed]; omega
  have hu16 : ((mu : Int) % 16) = ((mu % 16 : Nat) : Int) := by omega
  have hv16 : ((mvv : Int) % 16) = ((mvv % 16 : Nat) : Int) := by omega
  have hlu : mu % 16 < 16 := Nat.mod_lt _ (by omega)
  have hlv : mvv % 16 < 16 := Nat.mod_lt _ (by omega)
  generalize mu % 16 = u at *
  generalize mvv % 16 = v at *
  clear hz w1 w2
  go_enter Try.func6, Try.ntmps6
  go_wp2_with fail
  refine HM.out.mono ?_
  rintro _ w1 ⟨ps, s, va, rfl, hS, hr, hb⟩
  clear HM
  have hn := hb.len hS.ok
  obtain ⟨av, cv, rfl⟩ := hr.slice
  have HR := Lib.hid (And.intro hS (And.intro hr hb)); clear hS hr hb
  have hb2 := Blk.new w1 [.int .u64 u, .int .u64 v, .int .i64 0, .int .i64 0] 32
  have hf2 : Fr [] w1 (w1.alloc (.cells #[.int .u64 u, .int .u64 v, .int .i64 0, .int .i64 0] 32)) := (Fr.refl [] w1).alloc _
  have hS2 := HR.out.1.alloc (.cells #[.int .u64 u, .int .u64 v, .int .i64 0, .int .i64 0] 32)
  have HI := Lib.hid (sg_ins hS2 u v 0 0 1 (by omega) (by omega) (by have := HR.out.2.2.last; omega))
  have H2 := Lib.hid (And.intro hb2 (HR.out.2.1.fr0 hf2))
  have HBD := Lib.hid HR.out.2.2
  have HOK := Lib.hid HR.out.1.ok
  clear hb2 hf2 hS2 HR
  go_wp2_with fail
  refine HI.out.mono ?_
  rintro _ w3 ⟨rfl, hS3, hG3⟩
  have H3 := Lib.hid (And.intro (hG3.blk H2.out.1 (List.mem_cons_self ..)) (hG3.rowV H2.out.2 (fun q hq => List.mem_cons_of_mem _ (by simpa using hq))))
  clear HI H2 hG3
  by_cases hc : s.chk u v = 0
  · have hir : s.insR u v 0 0 1 = s.edge u v 0 0 1 := if_pos hc
    have his : s.insS u v 0 0 1 = s.ins u v 0 0 1 := if_pos hc
    rw [his] at hS3
    rw [hir, hc]
    have hl1 : s.last + 1 < U64 := by have := HBD.out.last; show s.last + 1 < 18446744073709551616; omega
    have hus := undo_has HOK.out (u := u) (v := v) (by show u < 18446744073709551616; omega) (by show v < 18446744073709551616; omega) hc hl1 0 0 1
    have hul := undo_L HOK.out hc 0 0 1
    obtain ⟨x, hx⟩ : ∃ x, x = s.edge u v 0 0 1 := ⟨_, rfl⟩
    have hxs : s.slot = x.slot := by rw [hx]; rfl
    have hxq : x.seq = s.last + 1 := by rw [hx]; rfl
    rw [← hx] at hus ⊢
    obtain ⟨s1, hs1⟩ : ∃ s1, s1 = s.ins u v 0 0 1 := ⟨_, rfl⟩
    have hl2 : s1.last = s.last + 1 := by rw [hs1]; rfl
    rw [← hs1] at hus hul hS3
    rw [hxs] at hus hul
    have hs2s : (s1.rem x.slot).slot = x.slot := rfl
    have hok2 : (s1.rem x.slot).Ok := Sm.ok_rem hS3.ok (by have := ((Sm.has_iff hS3.ok _).1 hus.1).2; simpa using this)
    have hV2 : (s1.rem x.slot).V = s.V := by rw [hs1]; rfl
    have hE2 : (s1.rem x.slot).E = s.E := by rw [hs1]; rfl
    have hL2 : (s1.rem x.slot).last = s.last + 1 := by rw [← hl2]; rfl
    have hck : (s1.rem x.slot).chk u v = 0 := (chk_congr HOK.out hok2 hul hV2 hE2 u v).trans hc
    have hid2 : (s1.rem x.slot).ids = idsOf s.L := by rw [ids_of hok2 (by rw [hul]; exact HBD.out.id), hul]
    have hml2 : (s1.rem x.slot).M.L.length = (idsOf s.L).length := by rw [← Sm.ids_len, hid2]
    have hb4 : Blk (w3.alloc (.cells #[.int .i64 x.slot, .int .u64 x.seq, .int .u64 x.u, .int .u64 x.v, .int .i64 x.wt, .int .i64 x.t, .int .i64 x.x] 34)) w3.heap.size 34 (lvC x) := Blk.new w3 (lvC x) 34
    have hf4 : Fr [] w3 (w3.alloc (.cells #[.int .i64 x.slot, .int .u64 x.seq, .int .u64 x.u, .int .u64 x.v, .int .i64 x.wt, .int .i64 x.t, .int .i64 x.x] 34)) := (Fr.refl [] w3).alloc _
    have hS4 := hS3.alloc (.cells #[.int .i64 x.slot, .int .u64 x.seq, .int .u64 x.u, .int .u64 x.v, .int .i64 x.wt, .int .i64 x.t, .int .i64 x.x] 34)
    have hRM := sg_rem hS4 x.slot
    rw [hus.2, show s1.remC x.slot = 0 from if_pos hus.1, show s1.remS x.slot = s1.rem x.slot from if_pos hus.1] at hRM
    have HRM := Lib.hid hRM
    have H4 := Lib.hid (And.intro hb4 (And.intro (hf4.blk H3.out.1 (by simp)) (H3.out.2.fr0 hf4)))
    have HF := Lib.hid (And.intro hul (And.intro hid2 (And.intro hml2 (And.intro hck (And.intro hL2 (And.intro hxq hs2s))))))
    have x0 := hb4.cell 0
    simp only [lvC, List.getElem?_cons_zero] at x0
    clear hb4 hf4 hS4 hRM hus hul hxs hs1 hs2s hok2 hV2 hE2 hL2 hck hid2 hml2 hS3 H3 hir his hx hl2 hxq hl1
    generalize s1.rem x.slot = s2 at *
    go_wp2_with fail
    clear x0
    refine HRM.out.mono ?_
    rintro _ w5 ⟨rfl, hS5, hG5⟩
    clear HRM
    have hx5 := hG5.blk H4.out.1 (by simp)
    have hr5 := hG5.blk H4.out.2.1 (by simp)
    have ha5 := hG5.rowV H4.out.2.2 (fun q hq => List.mem_cons_of_mem _ (List.mem_cons_of_mem _ (by simpa using hq)))
    have hb6 : Blk (w5.alloc (.cells #[.int .i64 x.slot, .int .u64 x.seq, .int .u64 x.u, .int .u64 x.v, .int .i64 x.wt, .int .i64 x.t, .int .i64 x.x] 34)) w5.heap.size 34 (lvC x) := Blk.new w5 (lvC x) 34
    have hf6 : Fr [] w5 (w5.alloc (.cells #[.int .i64 x.slot, .int .u64 x.seq, .int .u64 x.u, .int .u64 x.v, .int .i64 x.wt, .int .i64 x.t, .int .i64 x.x] 34)) := (Fr.refl [] w5).alloc _
    have hS6 := hS5.alloc (.cells #[.int .i64 x.slot, .int .u64 x.seq, .int .u64 x.u, .int .u64 x.v, .int .i64 x.wt, .int .i64 x.t, .int .i64 x.x] 34)
    have H6 := Lib.hid (And.intro (hf6.blk hx5 (by simp)) (And.intro (hf6.blk hr5 (by simp)) (And.intro (ha5.fr0 hf6) hS6)))
    have HLi := Lib.hid (sg_list hS6)
    obtain ⟨x0, x1, x2, x3, x4, x5, x6⟩ := (H6.out.1).lvAt
    obtain ⟨y0, y1, y2, y3, y4, y5, y6⟩ := hb6.lvAt
    simp only [Nat.zero_add] at x0 x1 x2 x3 x4 x5 x6 y0 y1 y2 y3 y4 y5 y6
    have hee : lvEq x x = true := decide_eq_true rfl
    have hxb5 : w3.heap.size ≠ w5.heap.size := by have := hx5.lt; omega
    clear hx5 hr5 ha5 hb6 hf6 hS6 hS5 hG5 H4
    go_wp2_with fail
    clear x0 x1 x2 x3 x4 x5 x6 y0 y1 y2 y3 y4 y5 y6 hee hxb5
    generalize w5.alloc (.cells #[.int .i64 x.slot, .int .u64 x.seq, .int .u64 x.u, .int .u64 x.v, .int .i64 x.wt, .int .i64 x.t, .int .i64 x.x] 34) = w6 at *
    refine HLi.out.mono ?_
    rintro _ w7 ⟨v7, rfl, hr7, _, hF7⟩
    rw [HF.out.1] at hr7
    have hsm := same_w hr7 (H6.out.2.2.1.fr0 hF7) (by omega) (by omega)
    rw [decide_eq_true (rfl : s.L = s.L)] at hsm
    have HSm := Lib.hid hsm
    have HF7 := Lib.hid hF7
    clear hsm hr7 hF7 HLi
    go_wp2_with fail
    refine HSm.out.mono ?_
    rintro _ w8 ⟨rfl, hF8⟩
    have HF8 := Lib.hid (HF7.out.trans' hF8)
    have HID := Lib.hid (sg_ids (H6.out.2.2.2.go0 HF8.out))
    clear HSm HF7 hF8
    go_wp2_with fail
    refine HID.out.mono ?_
    rintro _ w9 ⟨v9, rfl, hu9, _, hF9⟩
    rw [HF.out.2.1] at hu9
    have HF9 := Lib.hid (HF8.out.trans' hF9)
    have HIW := Lib.hid (ids_w (H6.out.2.2.1.fr0 HF9.out) (by omega))
    have HU9 := Lib.hid hu9
    clear hu9 hF9 HF8 HID
    go_wp2_with fail
    refine HIW.out.mono ?_
    rintro _ w10 ⟨v10, rfl, hu10, _, hF10⟩
    have hil : (idsOf s.L).length ≤ 16 := idsN_len _ _
    have hsm := sameIDs_w (HU9.out.fr0 hF10) hu10 (by omega) (by omega)
    rw [decide_eq_true (rfl : idsOf s.L = idsOf s.L)] at hsm
    have HSm := Lib.hid hsm
    have HF10 := Lib.hid (HF9.out.trans' hF10)
    clear hsm hu10 hF10 HF9 HIW HU9
    go_wp2_with fail
    refine HSm.out.mono ?_
    rintro _ w11 ⟨rfl, hF11⟩
    have HF11 := Lib.hid (HF10.out.trans' hF11)
    have hvt := sg_verts (H6.out.2.2.2.go0 HF11.out)
    rw [HF.out.2.2.1] at hvt
    have HVT := Lib.hid hvt
    have HIW := Lib.hid (ids_w (H6.out.2.2.1.fr0 HF11.out) (by omega))
    clear hF11 HF10 HSm hvt
    go_wp2_with fail
    refine HVT.out.mono ?_
    rintro _ w11 ⟨rfl, rfl⟩
    go_wp2_with fail
    refine HIW.out.mono ?_
    rintro _ w12 ⟨v12, rfl, hu12, _, hF12⟩
    obtain ⟨a12, c12, rfl⟩ := hu12.slice
    have HF12 := Lib.hid (HF11.out.trans' hF12)
    clear hu12 hF12 HF11 HIW HVT
    have hIN := sg_ins (H6.out.2.2.2.go0 HF12.out) u v 0 0 2 (by omega) (by omega) (by have h1 := HF.out.2.2.2.2.1; have h2 := HBD.out.last; omega)
    have hyr : s2.insR u v 0 0 2 = s2.edge u v 0 0 2 := if_pos HF.out.2.2.2.1
    rw [hyr, HF.out.2.2.2.1] at hIN
    obtain ⟨y, hy⟩ : ∃ y, y = s2.edge u v 0 0 2 := ⟨_, rfl⟩
    have hys : y.slot = x.slot := by rw [hy]; exact HF.out.2.2.2.2.2.2
    have hyq : y.seq = x.seq + 1 := by rw [hy]; have h1 := HF.out.2.2.2.2.1; have h2 := HF.out.2.2.2.2.2.1; show s2.last + 1 = x.seq + 1; omega
    rw [← hy] at hIN
    have HIN := Lib.hid hIN
    have HYS := Lib.hid (And.intro hys hyq)
    have hrc := (H6.out.2.1.fr0' HF12.out)
    have q0 := hrc.cell 0; have q1 := hrc.cell 1; have q2 := hrc.cell 2; have q3 := hrc.cell 3
    simp only [List.getElem?_cons_zero, List.getElem?_cons_succ] at q0 q1 q2 q3
    clear hrc hIN hyr hy hys hyq
    go_wp2_with fail
    refine HIN.out.mono ?_
    rintro _ w13 ⟨rfl, hS13, hG13⟩
    clear q0 q1 q2 q3 HIN
    have hx13 := (hG13.blk (H6.out.1.fr0' HF12.out) (by simp)).alloc (.cells #[.int .i64 y.slot, .int .u64 y.seq, .int .u64 y.u, .int .u64 y.v, .int .i64 y.wt, .int .i64 y.t, .int .i64 y.x] 34)
    have hy13 : Blk (w13.alloc (.cells #[.int .i64 y.slot, .int .u64 y.seq, .int .u64 y.u, .int .u64 y.v, .int .i64 y.wt, .int .i64 y.t, .int .i64 y.x] 34)) w13.heap.size 34 (lvC y) := Blk.new w13 (lvC y) 34
    have x0 := hx13.lvAt.1
    have x1 := hx13.lvAt.2.1
    have y0 := hy13.lvAt.1
    have y1 := hy13.lvAt.2.1
    simp only [Nat.zero_add] at x0 x1 y0 y1
    have d1 : ((y.slot : Int) == (x.slot : Int)) = true := by rw [HYS.out.1]; simp
    have HS14 := Lib.hid (hS13.alloc (.cells #[.int .i64 y.slot, .int .u64 y.seq, .int .u64 y.u, .int .u64 y.v, .int .i64 y.wt, .int .i64 y.t, .int .i64 y.x] 34))
    have hws : w3.heap.size ≠ w13.heap.size := by have := (H6.out.1.fr0' HF12.out).lt; have := hG13.size; omega
    have hwr : IntKind.u64.wrap ((x.seq : Int) + 1) = (y.seq : Int) := by
      rw [HYS.out.2]
      have h2 := HF.out.2.2.2.2.2.1; have h3 := HBD.out.last
      simp [IntKind.wrap, IntKind.bits, IntKind.signed]; omega
    clear hx13 hy13 hS13 hG13
    go_wp2_with fail
    refine (HWk.out _).mono ?_
    rintro _ w15 ⟨rfl, hF15⟩
    have HF15 := Lib.hid (HS14.out.go0 hF15); clear hF15
    go_wp2_with fail
    go_ret
    exact ⟨rfl, HF15.out.below⟩
  · have d2 : ((s.chk u v : Int) != 0) = true := by simp; omega
    go_wp2_with fail
    refine (HWk.out _).mono ?_
    rintro _ w9 ⟨rfl, hF9⟩
    have HF9 := Lib.hid ((hS3.alloc _).go0 hF9); clear hF9
    go_wp2_with fail
    go_ret
    exact ⟨rfl, HF9.out.below⟩
end Go.Proofs.Ytbegdgnhpklceaa

namespace Go.Proofs.Ytbegdgnhpklceaa
open Go.RowKit
set_option maxRecDepth 10000
set_option maxHeartbeats 800000

def endsOf (l : List Lv) : List (Nat × Nat) := l.map fun e => (e.u, e.v)
theorem any_ends {l m : List Lv} (h : endsOf l = endsOf m) (id : Nat) : (l.any fun e => e.at id) = m.any fun e => e.at id := by
  have hh : ∀ k : List Lv, (k.any fun e => e.at id) = (endsOf k).any fun p => p.1 == id || p.2 == id := fun k => by
    unfold endsOf; rw [List.any_map]; rfl
  rw [hh, hh, h]
theorem idsN_ends {l m : List Lv} (h : endsOf l = endsOf m) (n : Nat) : idsN l n = idsN m n := by
  unfold idsN
  exact List.filter_congr fun id _ => any_ends h id
theorem filter_or (l : List Nat) (p q : Nat → Bool) : (l.filter fun x => p x || q x).length = (l.filter p).length + (l.filter fun x => !p x && q x).length := by
  induction l with
  | nil => rfl
  | cons a r ih =>
    cases hp : p a <;> cases hq : q a <;> simp [hp, hq, ih] <;> omega
theorem find_any {s : Sm} (h : s.Ok) (id : Nat) : (s.M.find id).isSome = s.L.any fun e => e.at id := by
  rw [Bool.eq_iff_iff, h.vert, List.any_eq_true]
  constructor
  · intro hne
    obtain ⟨x, hx⟩ := List.exists_mem_of_ne_nil _ hne
    obtain ⟨e, he, hat, _⟩ := mem_incL.1 hx
    exact ⟨e, he, hat⟩
  · rintro ⟨e, he, hat⟩
    exact List.ne_nil_of_mem (mem_incL.2 ⟨e, he, hat, rfl⟩)
theorem mlen_ids {s : Sm} (h : s.Ok) (hb : ∀ e ∈ s.L, e.u < 16 ∧ e.v < 16) : s.M.L.length = (idsOf s.L).length := by
  rw [← Sm.ids_len, ids_of h hb]
theorem more_ids {s : Sm} (h : s.Ok) (hb : ∀ e ∈ s.L, e.u < 16 ∧ e.v < 16) {x : Lv} (hu : x.u < 16) (hv : x.v < 16) (hne : x.u ≠ x.v) : s.M.L.length + s.more x.u x.v = (idsOf (s.L ++ [x])).length := by
  rw [mlen_ids h hb]
  unfold Sm.more
  rw [find_any h, find_any h]
  have h1 : (idsOf (s.L ++ [x])).length = ((List.range 16).filter fun id => (s.L.any fun e => e.at id) || x.at id).length := by
    unfold idsOf idsN
    congr 1
    refine List.filter_congr fun id _ => ?_
    simp
  rw [h1, filter_or]
  show _ = (idsOf s.L).length + _
  congr 1
  obtain ⟨p, hp0⟩ : ∃ p : Nat → Bool, ∀ id, (s.L.any fun e => e.at id) = p id := ⟨_, fun _ => rfl⟩
  simp only [hp0]
  have hp : ((List.range 16).filter fun id => !p id && x.at id).Perm ([x.u, x.v].filter fun id => !p id) := by
    refine (List.perm_ext_iff_of_nodup (List.nodup_range.filter _) ((List.nodup_cons.2 ⟨by simpa using hne, by simp⟩).filter _)).2 fun id => ?_
    simp only [List.mem_filter, List.mem_range, Bool.and_eq_true, Lv.at, Bool.or_eq_true, beq_iff_eq, List.mem_cons, List.not_mem_nil, or_false]
    constructor
    · rintro ⟨_, h2, h3⟩; exact ⟨by omega, h2⟩
    · rintro ⟨h2, h3⟩; exact ⟨by omega, h3, by omega⟩
  rw [hp.length_eq]
  cases hpu : p x.u <;> cases hpv : p x.v <;> simp [hpu, hpv]
theorem idsN_take (l : List Lv) (i n : Nat) : (idsN (l.take i) n).length ≤ (idsN l n).length := by
  unfold idsN
  have : ∀ r : List Nat, (r.filter fun id => (l.take i).any fun e => e.at id).length ≤ (r.filter fun id => l.any fun e => e.at id).length := fun r => by
    induction r with
    | nil => simp
    | cons a r ih =>
      simp only [List.filter_cons]
      cases h1 : (l.take i).any (fun e => e.at a) with
      | true =>
        have h2 : l.any (fun e => e.at a) = true := by
          obtain ⟨e, he, hat⟩ := List.any_eq_true.1 h1
          exact List.any_eq_true.2 ⟨e, List.mem_of_mem_take he, hat⟩
        simp only [h2, if_true, List.length_cons]; omega
      | false =>
        cases h2 : l.any (fun e => e.at a) <;> simp <;> omega
  exact this _
/-- What Check answers, by the edges alone. -/
theorem chk_of {s : Sm} (h : s.Ok) {k : Nat} (hb : Bd s k) {x : Lv} (hu : x.u < 16) (hv : x.v < 16) : s.chk x.u x.v = if x.u = x.v then 9 else if 20 ≤ s.L.length then 12 else if 10 < (idsOf (s.L ++ [x])).length then 11 else 0 := by
  unfold Sm.chk
  rw [Sm.len_used h, hb.V, hb.E]
  by_cases e : x.u = x.v
  · rw [if_pos e, if_pos e]
  · rw [if_neg e, if_neg e, more_ids h hb.id hu hv e]
end Go.Proofs.Ytbegdgnhpklceaa
