/- LctCuts: the plain law, and the walk. -/
import Derived.Deep.LoopGhost
import Derived.Test.YtoppjjgecgbbkaaLctPlaysZ11
import Derived.Test.YtoppjjgecgbbkaaLctPlaysZ9
import Derived.Test.YtoppjjgecgbbkaaLctPlaysZ10
import Derived.Deep.RegionHeld3
import Derived.Shelf.SlGeneric
import Derived.Ground.SlgnProg
import Derived.Shelf.SlicesE.Clone
import Derived.Test.YtoppjjgecgbbkaaLctPlaysZ1
/- The document's forest: Towards. -/
namespace Go.Proofs.Ytoppjjgecgbbkaa
open Go.RowKit Classical
set_option maxRecDepth 10000
set_option maxHeartbeats 800000

theorem run_makeI (n : Nat) (w : World) (hn : n ≤ 1048576) : (Instr.makeSlice 41 (.int .i64 n) (.int .i64 n)).run Try.prog w = .ok (.slice (some ⟨w.heap.size, 0, none⟩) n n) (w.alloc (.cells (zero64 n) 3)) := by
  obtain ⟨i0, hi, hz0, hz1, hz2⟩ := info_parts Try.info3
  have h := run_make (P := Try.prog) w 41 3 i0 (.int .i64 0) Try.underlying41 hi hz0 .i64 .i64 n n (by omega) (by omega) (by rw [hz2]; omega) (by omega)
  rw [hz1] at h
  simp only [Int.toNat_natCast, Nat.mul_one] at h
  exact h

/-- The row of the next vertices. -/
structure Tr (w wr : World) (pr : Nat) (vK vL : Value) (n : Nat) (key : Nat → Int) (L : List (Nat × Nat)) (nb : Nat) (nx : Nat → Int) : Prop where
  ref : RefAt wr pr vK vL n key L
  row : wr.ownsRow 0 3 1 (.slice (some ⟨nb, 0, none⟩) n n) n (keyCells n nx)
  fr : Fr [] w wr
  new : w.heap.size ≤ nb
  old : ∀ q ∈ rB pr vK vL, q < w.heap.size
structure Tq (w wr : World) (nb : Nat) (v : Value) (todo : List Nat) : Prop where
  que : Que wr 3 v (encR todo)
  new : ∀ b, v.ownBlock = some b → w.heap.size ≤ b ∧ b ≠ nb

section
variable {w wr w' : World} {pr : Nat} {vK vL : Value} {n : Nat} {key : Nat → Int} {L : List (Nat × Nat)} {nb : Nat} {nx : Nat → Int} {v : Value} {todo : List Nat}
theorem Tr.step (h : Tr w wr pr vK vL n key L nb nx) {S : List Nat} (hf : Fr S wr w') (hn : nb ∉ S) (hs : ∀ q ∈ S, w.heap.size ≤ q) : Tr w w' pr vK vL n key L nb nx :=
  ⟨h.ref.fr hf (fun q hq hm => by have := h.old q hq; have := hs q hm; omega), ownsRow_same h.row (fun q hq => hf.keep q (h.row.lt q hq).2 (by simp [Value.ownBlock] at hq; subst hq; exact hn)), h.fr.trans hf (fun q hq => .inr (hs q hq)), h.new, h.old⟩
theorem Tr.set (h : Tr w wr pr vK vL n key L nb nx) {o : Nat} (ho : o < n) (k : Int) : Tr w (wr.setCell ⟨nb, o, none⟩ (.int .i64 k)) pr vK vL n key L nb (updI nx o k) := by
  have hf : Fr [nb] wr (wr.setCell ⟨nb, o, none⟩ (.int .i64 k)) := (Fr.refl _ _).setCell _ _ (.inl (by simp))
  have hn := h.new
  refine ⟨h.ref.fr hf (fun q hq hm => by have := h.old q hq; simp at hm; omega), ?_, h.fr.trans hf (fun q hq => .inr (by simp at hq; omega)), h.new, h.old⟩
  have := ownsRow_set h.row ho (.int .i64 k)
  rw [keyCells_set] at this; exact this
theorem Tr.at (h : Tr w wr pr vK vL n key L nb nx) {o : Nat} (ho : o < n) : wr.cell? ⟨nb, o, none⟩ = some (.int .i64 (nx o)) ∧ wr.frozen? ⟨nb, o, none⟩ = false := by
  obtain ⟨b, cap, e, _, _, h1, h2⟩ := ownsRow_at h.row ho
  simp only [Value.slice.injEq, Option.some.injEq, Addr.mk.injEq, and_true, true_and] at e
  obtain ⟨rfl, rfl⟩ := e
  exact ⟨by rw [h1, keyCells_at ho], h2 o⟩
theorem Tq.step (h : Tq w wr nb v todo) {S : List Nat} (hf : Fr S wr w') (hn : ∀ b, v.ownBlock = some b → b ∉ S) : Tq w w' nb v todo := by
  refine ⟨h.que.same (fun k hk => hf.keep k ?_ (hn k hk)), h.new⟩
  obtain ⟨b, h1, h2⟩ := h.que.lt
  rw [hk] at h1; simp at h1; omega
theorem Tr.congr (h : Tr w wr pr vK vL n key L nb nx) {nx' : Nat → Int} (e : ∀ x, x < n → nx x = nx' x) : Tr w wr pr vK vL n key L nb nx' := by
  have : keyCells n nx = keyCells n nx' := List.map_congr_left (fun x hx => by rw [e x (List.mem_range.1 hx)])
  exact ⟨h.ref, by rw [← this]; exact h.row, h.fr, h.new, h.old⟩
end

theorem Tq.app {w wr w' w0 : World} {nb : Nat} {v v' : Value} {todo : List Nat} {o : Nat} (h : Tq w wr nb v todo) (hq : Que w' 3 v' (encR todo ++ [encI o])) (hf : Fr [] wr w0) (hr : w.heap.size ≤ wr.heap.size) (hnb : nb < wr.heap.size)
    (hv : v'.ownBlock = v.ownBlock ∨ ∀ q, v'.ownBlock = some q → w0.heap.size ≤ q) : Tq w w' nb v' (todo ++ [o]) := by
  refine ⟨by simpa [encR] using hq, fun b hb => ?_⟩
  rcases hv with e | e
  · exact h.new b (e ▸ hb)
  · have := e b hb; have := hf.size; omega

theorem towards_r {w : World} {pr : Nat} {vK vL : Value} {n : Nat} {key : Nat → Int} {L : List (Nat × Nat)} (h : RefAt w pr vK vL n key L) (hE : EL n L) (to : Nat) (hto : to < n) :
    Calls Try.prog 59 #[.pointer (some ⟨pr, 0, none⟩), .int .i64 to] w fun e w' => ∃ nb nx, e = .returned (.slice (some ⟨nb, 0, none⟩) n n) ∧ Tr w w' pr vK vL n key L nb nx ∧ Bfs n (EK L) to nx [] (fun _ => True) := by
  have hle := hE.le
  have hLl : L.length ≤ 65536 := by have := hE.trees; omega
  have hmk := fun W => run_makeI n W (by omega)
  have HE := Lib.hid hE; clear hE
  obtain ⟨aK, cK, rfl⟩ := h.slK
  obtain ⟨aL, cL, rfl⟩ := h.slL
  have d1 := h.hd.cell 1
  simp only [List.getElem?_cons_zero, List.getElem?_cons_succ] at d1
  have hT0 : Tr w (w.alloc (.cells (zero64 n) 3)) pr (.slice aK n cK) (.slice aL L.length cL) n key L w.heap.size (fun _ => 0) := by
    refine ⟨h.fr0 ((Fr.refl [] w).alloc _), ?_, (Fr.refl _ _).alloc _, Nat.le_refl _, h.lt⟩
    refine ⟨by simp [keyCells], .inr ⟨w.heap.size, n, zero64 n, rfl, Nat.zero_le _, World.alloc_heap_new w _, Nat.le_refl _, by unfold maxLen; omega, by simp [zero64, size_madeCells], ?_⟩⟩
    rw [zero64_list]; exact List.take_of_length_le (by simp [keyCells])
  go_enter Try.func59, Try.ntmps59
  go_wp2
  generalize w.heap.size = nb at *
  go_loopw [6] (fun x wr => ∃ k : Nat, k ≤ n ∧ x = .int .i64 k ∧ Hid (Tr w wr pr (.slice aK n cK) (.slice aL L.length cL) n key L nb (fun y => if y < k then -1 else 0))) (fun x _ => n - (intOf x).toNat)
  case atStart => exact ⟨0, Nat.zero_le _, rfl, Lib.hid (hT0.congr (fun x _ => by simp))⟩
  case round =>
    clear hT0 hmk
    obtain ⟨k, hk, rfl, HT⟩ := hrel
    by_cases hlt : k < n
    · obtain ⟨e1, e2⟩ := HT.out.at hlt
      have hki : (k : Int) < n := by omega
      go_wp2
      go_roundw
      case rel =>
        refine ⟨k + 1, by omega, by go_num, Lib.hid ((HT.out.set hlt (-1)).congr (fun x hx => ?_))⟩
        unfold updI
        by_cases e : x = k
        · rw [if_pos e, if_pos (by omega)]
        · rw [if_neg e]
          by_cases e2 : x < k
          · simp only [if_pos e2]; rw [if_pos (by omega)]
          · simp only [if_neg e2]; rw [if_neg (by omega)]
      case measure => simp [intOf]; omega
    · obtain rfl : k = n := by omega
      obtain ⟨e1, e2⟩ := HT.out.at hto
      have hki : ¬ ((k : Int) < k) := by omega
      have hti : (to : Int) < k := by omega
      have hT1 : Tr w ((wr.setCell ⟨nb, to, none⟩ (.int .i64 to)).alloc (.cells #[.int .i64 to] 3)) pr (.slice aK k cK) (.slice aL L.length cL) k key L nb (updI (fun _ => -1) to to) := by
        refine ((HT.out.set hto (to : Int)).congr (fun x hx => ?_)).step (S := []) ((Fr.refl _ _).alloc _) (by simp) (by simp)
        unfold updI
        by_cases e : x = to
        · rw [if_pos e, if_pos e]
        · rw [if_neg e, if_neg e]; simp only [if_pos hx]
      have hq1 : Tq w ((wr.setCell ⟨nb, to, none⟩ (.int .i64 to)).alloc (.cells #[.int .i64 to] 3)) nb (.slice (some ⟨wr.heap.size, 0, none⟩) 1 1) [to] := by
        have hs := HT.out.fr.size
        have hnb := (HT.out.row.lt nb rfl).2
        refine ⟨⟨wr.heap.size, 0, 1, #[.int .i64 to], rfl, ?_, by simp [encR], by unfold maxLen; omega, by simp, fun j u hj => ?_⟩, fun b hb => ?_⟩
        · have := World.alloc_heap_new (wr.setCell ⟨nb, to, none⟩ (.int .i64 to)) (.cells #[.int .i64 to] 3)
          have e : (wr.setCell ⟨nb, to, none⟩ (.int .i64 to)).heap.size = wr.heap.size := by simp [World.setCell]
          rw [e] at this; exact this
        · simpa [encR, encI] using hj
        · simp [Value.ownBlock] at hb; omega
      have hb1 : Bfs k (EK L) to (updI (fun _ => -1) to to) [to] (fun _ => True) := Bfs.start hto
      have HT1 := Lib.hid hT1; clear hT1
      have HQ1 := Lib.hid hq1; clear hq1
      have HB1 := Lib.hid hb1; clear hb1
      go_wp2
      clear e1 e2 HT d1 hlt
      generalize (wr.setCell ⟨nb, to, none⟩ (.int .i64 to)).alloc (.cells #[.int .i64 to] 3) = W1 at *
      go_loopg [7] (2 * k + 2) (fun m q wr => ∃ (nx : Nat → Int) (todo : List Nat), Hid (Tr w wr pr (.slice aK k cK) (.slice aL L.length cL) k key L nb nx) ∧ Hid (Tq w wr nb q todo) ∧ Hid (Bfs k (EK L) to nx todo (fun _ => True)) ∧ Hid (2 * unv k nx + todo.length < m ∧ m ≤ 2 * k + 2))
      case atStart => exact ⟨_, _, HT1, HQ1, HB1, Lib.hid ⟨by have := unv_le k (updI (fun _ => -1) to to); simp; omega, Nat.le_refl _⟩⟩
      case round =>
        clear HT1 HQ1 HB1
        obtain ⟨nx, todo, HT, HQ, HB, HM⟩ := hrel
        cases todo with
        | nil =>
          obtain ⟨b, off, cap, cur, hq, _⟩ := HQ.out.que
          subst hq
          simp only [encR, List.map_nil, List.length_nil]
          go_wp2
          go_ret
          exact ⟨nb, nx, rfl, HT.out, HB.out⟩
        | cons v todo =>
          obtain ⟨b, off, cap, hq, hcap, hc, hq2⟩ := Que.head (show Que _ _ _ (encI v :: encR todo) from HQ.out.que)
          subst hq
          have hl : (encR todo).length = todo.length := by simp [encR]
          simp only [hl] at hcap hq2 HQ ⊢
          clear hl
          have HM2 := Lib.hid (show 2 * unv k nx + todo.length + 1 < gk by have := HM.out.1; simp only [List.length_cons] at this; omega)
          have Hgk := Lib.hid HM.out.2
          have hqn := fun (q2 : Value) (e : q2.ownBlock = some b) (b' : Nat) (hb : q2.ownBlock = some b') => HQ.out.new b' (by rw [e] at hb; exact hb)
          have Hqn := Lib.hid hqn; clear hqn
          have HMid := Lib.hid (Mid.start HB.out)
          have Hlt := Lib.hid (show v < k from (HB.out.path v (HB.out.queue v (by simp))).1)
          have HTq : Hid (∃ q2, (cap = 1 → q2 = .slice (some ⟨b, off, none⟩) todo.length 0) ∧ (cap ≠ 1 → q2 = .slice (some ⟨b, off + 1, none⟩) todo.length (cap - 1)) ∧ Tq w wr nb q2 todo) := Lib.hid (by
            refine ⟨_, fun e => ?_, fun e => ?_, hq2, Hqn.out _ (by split <;> rfl)⟩
            · rw [if_pos e, e]
            · rw [if_neg e])
          clear hq2 HQ HB Hqn HM
          simp only [encI] at hc
          obtain ⟨q2, hz1, hz2, htq⟩ := HTq.out
          have HTq2 := Lib.hid htq; clear htq HTq
          by_cases hc1 : cap = 1
          case' pos => (subst hc1; obtain rfl := hz1 rfl; obtain rfl : todo = [] := List.eq_nil_of_length_eq_zero (by omega))
          case' neg => (obtain rfl := hz2 hc1)
          all_goals clear hz1 hz2
          all_goals
            go_wp2
            clear hc hcap
            go_loopg [7, 9] (L.length) (fun m q y wr => ∃ (i : Nat) (s : (Nat → Int) × List Nat), i ≤ L.length ∧ y = .int .i64 i ∧ m = L.length - i ∧ Hid (Tr w wr pr (.slice aK k cK) (.slice aL L.length cL) k key L nb s.1) ∧ Hid (Tq w wr nb q s.2) ∧ Hid (Mid k L to v i s) ∧ Hid (2 * unv k s.1 + s.2.length + 1 < gk))
            case atStart => exact ⟨0, (nx, _), Nat.zero_le _, rfl, by omega, HT, HTq2, HMid, HM2⟩
            case round =>
              clear HT HTq2 HMid HM2
              obtain ⟨i, ⟨nx, todo⟩, hi, rfl, hgm, HT, HQ, HMid, HM⟩ := hrel
              have d2 := HT.out.ref.hd.cell 2
              simp only [List.getElem?_cons_zero, List.getElem?_cons_succ] at d2
              by_cases hlt : i < L.length
              · have hmem := List.getElem_mem hlt
                have hnext := HMid.out.next (fun p hp => ⟨(HE.out.lt p hp).1, (HE.out.lt p hp).2.1⟩) hlt
                have hmeas := bfs_meas (n := k) (v := v) (s := (nx, todo)) (e := L[i]) ⟨(HE.out.lt _ hmem).1, (HE.out.lt _ hmem).2.1⟩
                obtain ⟨hx, hy, hxy⟩ := HE.out.lt _ hmem
                obtain ⟨bL, capL, eL, _, c0, c1⟩ := pair_at HT.out.ref.edges hlt
                simp only [Value.slice.injEq, true_and] at eL
                obtain ⟨rfl, rfl⟩ := eL
                generalize L[i] = ed at *
                obtain ⟨x, y⟩ := ed
                dsimp only at hx hy hxy c0 c1
                have hi1 : (i : Int) < L.length := by omega
                have HN := Lib.hid (And.intro hnext hmeas); clear hnext hmeas HMid hmem
                have HM' := Lib.hid (show 2 * unv k (bfsE v (nx, todo) (x, y)).1 + (bfsE v (nx, todo) (x, y)).2.length + 1 < _ by have h1 := HN.out.2; have h2 := HM.out; dsimp only at h1 h2; exact Nat.lt_of_le_of_lt (Nat.add_le_add_right h1 1) h2)
                clear HM
                by_cases hyv : y = v
                · subst hyv
                  have t1 : ((x : Int) == (y : Int)) = false := beq_eq_false_iff_ne.2 (by omega)
                  have hot : other y (x, y) = x := by simp [other]
                  obtain ⟨e1, e2⟩ := HT.out.at hx
                  have hok : (x : Int) < k := by omega
                  have ho0 : (0 : Int) ≤ x := by omega
                  have hge : decide ((x : Int) ≥ 0) = true := decide_eq_true (by omega)
                  by_cases hn : nx x < 0
                  · have hb : bfsE y (nx, todo) (x, y) = (updI nx x y, todo ++ [x]) := by unfold bfsE; rw [hot, if_pos ⟨by omega, by simpa using hn⟩]; simp
                    rw [hb] at HN HM'
                    have hdn : decide (nx x < 0) = true := decide_eq_true hn
                    clear hb hot
                    have hT1 := HT.out.set hx (y : Int)
                    have hQ1 := HQ.out.step (w' := wr.setCell ⟨nb, x, none⟩ (.int .i64 (y : Int))) (S := [nb]) ((Fr.refl _ _).setCell _ _ (.inl (by simp))) (fun b hb => by have := (HQ.out.new b hb).2; simpa using this)
                    have hlen : todo.length + 1 ≤ 4294967296 := by have h1 := HM'.out; have h2 := Hgk.out; simp only [List.length_append, List.length_singleton] at h1; omega
                    obtain ⟨W1, hW1⟩ : ∃ W1, wr.setCell ⟨nb, x, none⟩ (.int .i64 (y : Int)) = W1 := ⟨_, rfl⟩
                    rw [hW1] at hT1 hQ1
                    have HT1 := Lib.hid hT1; have HQ1 := Lib.hid hQ1; clear hT1 hQ1
                    go_wp2_with (at_builtin; refine wpList_que rfl _ _ 41 rfl 3 (.int .i64 0) 8 Try.underlying41 Try.info3 rfl u7 (encR todo) rfl (HQ1.out.que.same (fun q hq => Below.heap_alloc _ _ _ (by obtain ⟨b', hb1, hb2⟩ := HQ1.out.que.lt; rw [hq] at hb1; simp at hb1; omega))) W1.heap.size (.int .i64 x) rfl (cell_new1 _ _ _ _ rfl) rfl (by simp only [encR, List.length_map]; exact hlen) (by decide) ?_; intro v' w3 hq3 hg3 hv3; have hF3 : Fr u7.ownBlock.toList W1 w3 := ((Fr.refl _ _).alloc _).grown hg3 (fun q e => .inl (by simp [e])); have HT3 := Lib.hid (HT1.out.step hF3 (fun hm => by have := (HQ1.out.new nb (by simpa using hm)).2; exact this rfl) (fun q hq => (HQ1.out.new q (by simpa using hq)).1)); have HQ3 := Lib.hid (HQ1.out.app hq3 ((Fr.refl [] W1).alloc _) HT1.out.fr.size (HT1.out.row.lt nb rfl).2 hv3); clear hq3 hg3 hv3 hF3)
                    go_roundg (L.length - (i + 1))
                    case measure => omega
                    case rel => exact ⟨i + 1, (updI nx x y, todo ++ [x]), by omega, by go_num, rfl, HT3, HQ3, Lib.hid HN.out.1, HM'⟩
                  · have hb : bfsE y (nx, todo) (x, y) = (nx, todo) := by unfold bfsE; rw [hot, if_neg (fun h => hn (by simpa using h.2))]
                    rw [hb] at HN HM'
                    have hdn : decide (nx x < 0) = false := decide_eq_false hn
                    clear hb hot
                    go_wp2
                    go_roundg (L.length - (i + 1))
                    case measure => omega
                    case rel => exact ⟨i + 1, (nx, todo), by omega, by go_num, rfl, HT, HQ, Lib.hid HN.out.1, HM'⟩
                · by_cases hxv : x = v
                  · subst hxv
                    have t1 : ((y : Int) == (x : Int)) = false := beq_eq_false_iff_ne.2 (by omega)
                    have hot : other x (x, y) = y := by simp [other, hyv]
                    obtain ⟨e1, e2⟩ := HT.out.at hy
                    have hok : (y : Int) < k := by omega
                    have ho0 : (0 : Int) ≤ y := by omega
                    have hge : decide ((y : Int) ≥ 0) = true := decide_eq_true (by omega)
                    by_cases hn : nx y < 0
                    · have hb : bfsE x (nx, todo) (x, y) = (updI nx y x, todo ++ [y]) := by unfold bfsE; rw [hot, if_pos ⟨by omega, by simpa using hn⟩]; simp
                      rw [hb] at HN HM'
                      have hdn : decide (nx y < 0) = true := decide_eq_true hn
                      clear hb hot
                      have hT1 := HT.out.set hy (x : Int)
                      have hQ1 := HQ.out.step (w' := wr.setCell ⟨nb, y, none⟩ (.int .i64 (x : Int))) (S := [nb]) ((Fr.refl _ _).setCell _ _ (.inl (by simp))) (fun b hb => by have := (HQ.out.new b hb).2; simpa using this)
                      have hlen : todo.length + 1 ≤ 4294967296 := by have h1 := HM'.out; have h2 := Hgk.out; simp only [List.length_append, List.length_singleton] at h1; omega
                      obtain ⟨W1, hW1⟩ : ∃ W1, wr.setCell ⟨nb, y, none⟩ (.int .i64 (x : Int)) = W1 := ⟨_, rfl⟩
                      rw [hW1] at hT1 hQ1
                      have HT1 := Lib.hid hT1; have HQ1 := Lib.hid hQ1; clear hT1 hQ1
                      go_wp2_with (at_builtin; refine wpList_que rfl _ _ 41 rfl 3 (.int .i64 0) 8 Try.underlying41 Try.info3 rfl u7 (encR todo) rfl (HQ1.out.que.same (fun q hq => Below.heap_alloc _ _ _ (by obtain ⟨b', hb1, hb2⟩ := HQ1.out.que.lt; rw [hq] at hb1; simp at hb1; omega))) W1.heap.size (.int .i64 y) rfl (cell_new1 _ _ _ _ rfl) rfl (by simp only [encR, List.length_map]; exact hlen) (by decide) ?_; intro v' w3 hq3 hg3 hv3; have hF3 : Fr u7.ownBlock.toList W1 w3 := ((Fr.refl _ _).alloc _).grown hg3 (fun q e => .inl (by simp [e])); have HT3 := Lib.hid (HT1.out.step hF3 (fun hm => by have := (HQ1.out.new nb (by simpa using hm)).2; exact this rfl) (fun q hq => (HQ1.out.new q (by simpa using hq)).1)); have HQ3 := Lib.hid (HQ1.out.app hq3 ((Fr.refl [] W1).alloc _) HT1.out.fr.size (HT1.out.row.lt nb rfl).2 hv3); clear hq3 hg3 hv3 hF3)
                      go_roundg (L.length - (i + 1))
                      case measure => omega
                      case rel => exact ⟨i + 1, (updI nx y x, todo ++ [y]), by omega, by go_num, rfl, HT3, HQ3, Lib.hid HN.out.1, HM'⟩
                    · have hb : bfsE x (nx, todo) (x, y) = (nx, todo) := by unfold bfsE; rw [hot, if_neg (fun h => hn (by simpa using h.2))]
                      rw [hb] at HN HM'
                      have hdn : decide (nx y < 0) = false := decide_eq_false hn
                      clear hb hot
                      go_wp2
                      go_roundg (L.length - (i + 1))
                      case measure => omega
                      case rel => exact ⟨i + 1, (nx, todo), by omega, by go_num, rfl, HT, HQ, Lib.hid HN.out.1, HM'⟩
                  · have t1 : ((x : Int) == (v : Int)) = false := beq_eq_false_iff_ne.2 (by omega)
                    have t2 : ((y : Int) == (v : Int)) = false := beq_eq_false_iff_ne.2 (by omega)
                    have hb : bfsE v (nx, todo) (x, y) = (nx, todo) := by unfold bfsE; rw [if_neg]; simp [other, hxv, hyv]
                    rw [hb] at HN HM'
                    clear hb
                    go_wp2
                    go_roundg (L.length - (i + 1))
                    case measure => omega
                    case rel => exact ⟨i + 1, (nx, todo), by omega, by go_num, rfl, HT, HQ, Lib.hid HN.out.1, HM'⟩
              · obtain rfl : i = L.length := by omega
                have hi1 : ¬ ((L.length : Int) < L.length) := by omega
                go_wp2
                go_roundg (2 * unv k nx + todo.length + 1)
                case measure => exact HM.out
                case rel => exact ⟨nx, todo, HT, HQ, Lib.hid HMid.out.stop, Lib.hid ⟨by omega, Nat.le_trans (Nat.le_of_lt (show 2 * unv k nx + todo.length + 1 < _ from HM.out)) Hgk.out⟩⟩
end Go.Proofs.Ytoppjjgecgbbkaa

/- lct: Cut. -/
namespace Go.Proofs.Ytoppjjgecgbbkaa
open Go.RowKit Classical
set_option maxRecDepth 10000
set_option maxHeartbeats 800000

noncomputable def cutCode (n : Nat) (E : Nat → Nat → Prop) (a b : Int) : Int :=
  if inV n a = true ∧ inV n b = true then (if E a.toNat b.toNat then 0 else 5) else 3
noncomputable def cutE (n : Nat) (E : Nat → Nat → Prop) (a b : Int) : Nat → Nat → Prop := if cutCode n E a b = 0 then delE E a.toNat b.toNat else E

theorem dist_one {n : Nat} {E : Nat → Nat → Prop} (h : Frs E) {v u : Nat} (hv : v < n) (hu : u < n) : distI n E v u = 1 ↔ E v u := by
  constructor
  · intro e
    by_cases hc : ConnI n E v u
    · obtain ⟨_, _, p, hp⟩ := hc
      simp only [Int.toNat_natCast] at hp
      rw [dist_nat h hv hu hp] at e
      obtain ⟨l, rfl, hw, _, hl⟩ := hp
      have hlen : l.length = 1 := by simp at e; omega
      match l, hlen with
      | [x], _ =>
        simp at hl; subst hl
        exact hw.1
    · unfold distI at e; rw [if_neg hc] at e; cases e
  · intro e
    rw [dist_nat h hv hu (h.edge e)]; rfl

theorem cut_w {w : World} {pf g n : Nat} {E : Nat → Nat → Prop} {key : Nat → Int} (h : LM w pf g n E key) (a b : Int) :
    Calls Try.prog 30 #[.pointer (some ⟨pf, 0, none⟩), .int .i64 a, .int .i64 b] w fun e w' => e = .returned (.int .i64 (cutCode n E a b)) ∧ LM w' pf g n (cutE n E a b) key ∧ Fr [pf, g] w w' := by
  have H := Lib.hid h
  have hfrs := Lib.hid (LG.frs h)
  obtain ⟨hp1, hg1, hn1⟩ := LG.lts h
  obtain ⟨cap, σ, F, par, d, rt, hL, hF, hE, hk⟩ := h
  clear hF hE hk
  have hLa : LctAt (w.alloc (.cells #[.int .i64 a, .int .i64 b] 3)) pf g (n + 1) cap σ ((n : Int) - nc n E) := hL.below ((Below.refl _ w).alloc (Nat.le_refl _) _) hp1 hg1
  have hblk := Blk.new w [.int .i64 a, .int .i64 b] 3
  have hFa : Fr [] w (w.alloc (.cells #[.int .i64 a, .int .i64 b] 3)) := (Fr.refl _ _).alloc _
  have HMa := Lib.hid (LG.fr H.out hFa (by simp) (by simp))
  have hCk := check_w hLa w.heap.size 2 (fun k => if k = 0 then a else b) (by decide) (fun k hk => by
    rw [hblk.cell]
    rcases (show k = 0 ∨ k = 1 by omega) with rfl | rfl <;> rfl)
  have HCk := Lib.hid hCk; clear hCk hblk
  clear hLa hL
  go_enter Try.func30, Try.ntmps30
  go_wp2_with fail
  refine HCk.out.mono ?_
  rintro _ w1 ⟨hcode, rfl⟩
  clear HCk
  generalize w.alloc (.cells #[.int .i64 a, .int .i64 b] 3) = w1 at *
  rcases hcode with ⟨rfl, hall⟩ | ⟨rfl, k, hk, hbad⟩
  · have va : inV n a = true := hall 0 (by decide)
    have vb : inV n b = true := hall 1 (by decide)
    clear hall
    obtain ⟨v, rfl, hv⟩ := inV_nat va
    obtain ⟨u, rfl, hu⟩ := inV_nat vb
    have hd1 := dist_one (n := n) hfrs.out hv hu
    go_wp2_with fail
    refine (dist_d HMa.out (v : Int) (u : Int)).mono ?_
    rintro _ w2 ⟨rfl, hM2, hF2⟩
    by_cases he : E v u
    · have hlc : cutCode n E v u = 0 := by unfold cutCode; rw [if_pos ⟨va, vb⟩, Int.toNat_natCast, Int.toNat_natCast, if_pos he]
      have hle : cutE n E v u = delE E v u := by unfold cutE; rw [hlc, if_pos rfl, Int.toNat_natCast, Int.toNat_natCast]
      have Hlc := Lib.hid (And.intro hlc hle); clear hlc hle
      have Hd := Lib.hid (hd1.2 he)
      rw [Hd.out]
      have He := Lib.hid he
      clear va vb hd1
      obtain ⟨cap2, σ2, F2, par2, d2, rt2, hL2, hLF2, hE2, hk2⟩ := hM2
      have hrt : rt2 (v + 1) = rt2 (u + 1) := (conn_rt hLF2.rtd hE2).1 (conn_of_edge hfrs.out he)
      have HF2 := Lib.hid hLF2; clear hLF2
      have HE2 := Lib.hid hE2; clear hE2
      have HK2 := Lib.hid hk2; clear hk2
      clear he
      have hN := hL2.le
      go_wp2_with fail
      refine (path_v hL2 HF2.out v u hv hu).mono ?_
      rintro _ w3 ⟨rfl, τ, l, R, par', d', rt', hL3, hP, hF3⟩
      obtain ⟨p, hp1', hp2', _⟩ := hP.at HE2.out hrt
      have hpe : p = [v, u] := hfrs.out.unique hp1' (hfrs.out.edge He.out)
      have hls : l.seq = [v + 1] := by
        rw [hpe] at hp2'
        simp only [List.map_cons, List.map_nil] at hp2'
        have e : [v + 1] ++ [u + 1] = l.seq ++ [u + 1] := hp2'
        exact (List.append_cancel_right e).symm
      have HCt := Lib.hid (hP.lf.cut hls)
      have HPk := Lib.hid (And.intro hP.key hP.adj)
      clear hP hp1' hp2' hpe hls hrt
      have d3 := hL3.hd.cell 1
      simp only [List.getElem?_cons_zero, List.getElem?_cons_succ] at d3
      have hfz3 := hL3.nodes.frozen
      have a2 := hL3.nodes.c2 (v + 1) (by omega)
      obtain ⟨hL4, hF4⟩ : LctAt (w3.setCell ⟨g, (v + 1) * 9 + 2, none⟩ (.int .i64 0)) pf g (n + 1) cap2 (τ.upd (v + 1) { τ (v + 1) with up := 0 }) ((n : Int) - nc n E) ∧ Fr [g] w3 (w3.setCell ⟨g, (v + 1) * 9 + 2, none⟩ (.int .i64 0)) := hL3.st2 (Fr.refl [g] w3) (i := v + 1) (by omega) 0
      have hv2 : ((v + 1 : Nat) : Int) < ((n + 1 : Nat) : Int) := by omega
      have hu2 : ((u + 1 : Nat) : Int) < ((n + 1 : Nat) : Int) := by omega
      have d4 := hL4.hd.cell 1
      simp only [List.getElem?_cons_zero, List.getElem?_cons_succ] at d4
      have hfz4 := hL4.nodes.frozen
      have b0 := hL4.nodes.c0 (u + 1) (by omega)
      obtain ⟨hL5, hF5⟩ := hL4.st0 hF4 (i := u + 1) (by omega) 0
      have HL5 : Hid (LctAt ((w3.setCell ⟨g, (v + 1) * 9 + 2, none⟩ (.int .i64 0)).setCell ⟨g, (u + 1) * 9, none⟩ (.int .i64 0)) pf g (n + 1) cap2 (cut2 τ (v + 1) (u + 1)) ((n : Int) - nc n E) ∧ Fr [g] w3 ((w3.setCell ⟨g, (v + 1) * 9 + 2, none⟩ (.int .i64 0)).setCell ⟨g, (u + 1) * 9, none⟩ (.int .i64 0))) := Lib.hid (And.intro hL5 hF5)
      clear hL5 hF5 hL4 hF4
      go_wp2_with fail
      refine (refresh_v HL5.out.1 u hu HCt.out.2.2.2.2 HCt.out.2.2.1 HCt.out.2.2.2.1).mono ?_
      rintro _ w6 ⟨rfl, hL6, hF6⟩
      have hF36 : Fr [g] w3 w6 := HL5.out.2.then hF6
      clear HL5 d3 hfz3 a2 d4 hfz4 b0
      have c6 := hL6.hd.cell 2
      simp only [List.getElem?_cons_zero, List.getElem?_cons_succ] at c6
      have hfz6 := hL6.hd.frozen 2
      obtain ⟨par3, d3', rt3, F3, q1, q2⟩ := HCt.out.1
      have hDE : ∀ x y, delE E v u x y ↔ Adj par3 (x + 1) (y + 1) := by
        intro x y
        rw [q2, HPk.out.2]
        unfold delE
        rw [HE2.out x y]
        simp only [Nat.add_right_cancel_iff]
      have hcnt := nc_del (n := n) hfrs.out ⟨par3, d3', rt3, q1.rtd, hDE⟩ He.out hv hu
      have hnc1 := nc_le n (delE E v u)
      obtain ⟨hL8, hF8⟩ := hL6.edges (hF2.then (hF3.then hF36)) ((n : Int) - nc n (delE E v u))
      have Hfin := Lib.hid (show LM _ pf g n (delE E v u) key from ⟨cap2, _, F3, par3, d3', rt3, hL8, q1, hDE, fun x hx => by rw [HCt.out.2.1, HPk.out.1]; exact HK2.out x hx⟩)
      have he2 : (n : Int) - nc n E - 1 = (n : Int) - nc n (delE E v u) := by omega
      have He2 := Lib.hid he2
      clear hL8 q1 q2 hDE hcnt he2 HCt
      have hncE := nc_le n E
      generalize nc n E = z1 at *
      generalize nc n (delE E v u) = z2 at *
      go_wp2
      go_ret
      rw [Hlc.out.1, Hlc.out.2, He2.out]
      exact ⟨rfl, Hfin.out, (hFa.mono (S' := [pf, g]) (by simp)).trans hF8 (fun q hq => .inl hq)⟩
    · have hlc : cutCode n E v u = 5 := by unfold cutCode; rw [if_pos ⟨va, vb⟩, Int.toNat_natCast, Int.toNat_natCast, if_neg he]
      have hle : cutE n E v u = E := by unfold cutE; rw [hlc]; simp
      have Hlc := Lib.hid (And.intro hlc hle); clear hlc hle
      have hne : (distI n E v u != 1) = true := bne_iff_ne.2 (fun e => he (hd1.1 e))
      have HM2 := Lib.hid hM2
      clear va vb hd1 he hM2
      go_wp2
      go_ret
      rw [Hlc.out.1, Hlc.out.2]
      exact ⟨rfl, HM2.out, (hFa.mono (S' := [pf, g]) (by simp)).trans hF2 (fun q hq => .inl (by simp at hq; simp [hq]))⟩
  · have hlc : cutCode n E a b = 3 := by
      unfold cutCode; rw [if_neg]
      rintro ⟨h1, h2⟩
      rcases (show k = 0 ∨ k = 1 by omega) with rfl | rfl
      · have hbad : inV n a = false := hbad; rw [h1] at hbad; cases hbad
      · have hbad : inV n b = false := hbad; rw [h2] at hbad; cases hbad
    have hle : cutE n E a b = E := by unfold cutE; rw [hlc]; simp
    have Hlc := Lib.hid (And.intro hlc hle); clear hlc hle hbad
    go_wp2
    go_ret
    rw [Hlc.out.1, Hlc.out.2]
    exact ⟨rfl, HMa.out, hFa.mono (by simp)⟩

end Go.Proofs.Ytoppjjgecgbbkaa

/- lct: Copy. -/
namespace Go.Proofs.Ytoppjjgecgbbkaa
open Go.RowKit Classical
set_option maxRecDepth 10000
set_option maxHeartbeats 800000

def Try.laysClone_ren : Go.Shelf.Ren := ⟨fun | 41 => 49 | n => n, fun | 22 => 63 | 23 => 71 | 4 => 4 | n => n, fun | n => n⟩
theorem Try.laysClone : Go.Proofs.SlLaysE0.n41 Try.prog Try.laysClone_ren := {
  mixed := by kernel_rfl
  f41 := ⟨Try.f49.name, by decide, Try.func49.trans (congrArg some (by kernel_rfl))⟩
  t4 := Try.underlying4
  a4 := Try.isAgg4
  z4 := Try.sizeOf4
  v4 := Try.zeroValue4
  t22 := Try.underlying63
  a22 := Try.isAgg63
  z22 := Try.sizeOf63
  v22 := Try.zeroValue63 }

theorem fv_one (n : Nd) (f : Nat) : (fv n f).oneCell' = true := by
  match f with
  | 0 | 1 | 2 | 3 | 4 | 5 | 6 | 7 => rfl
  | _ + 8 => rfl

theorem clone_w {w : World} {g N cap : Nat} {σ : Tbl} (h : NodesAt w g N σ) (hN : N ≤ 65537) (h0 : 0 < N) :
    Calls Try.prog 49 #[.slice (some ⟨g, 0, none⟩) N cap] w fun e w' => ∃ g' cap', e = .returned (.slice (some ⟨g', 0, none⟩) N cap') ∧ N ≤ cap' ∧ NodesAt w' g' N σ ∧ w.heap.size ≤ g' ∧ Fr [] w w' := by
  obtain ⟨i0, hi, hz0, hz1, hz2⟩ := info_parts Try.info71
  obtain ⟨arr, ha, hs, hc⟩ := h
  have hl : (arr.toList.take (N * 9)).length = N * 9 := by simp; omega
  have hat : ∀ j u, (arr.toList.take (N * 9))[j]? = some u → j < N * 9 ∧ arr[j]? = some u := by
    intro j u hj
    rw [List.getElem?_take] at hj
    split at hj
    · exact ⟨by assumption, by simpa using hj⟩
    · cases hj
  refine (AnyE.slices_Clone Try.laysClone i0 ndv 9 72 hi hz0 hz1 hz2 (by rw [ndv_cells]; rfl) (by decide) Try.sizeOf71 g 0 N cap (arr.toList.take (N * 9)) w hl (by unfold maxLen; omega) (by omega) (fun j u hj => by
      have := (hat j u hj).2
      simp [World.cell?, ha, this]) (fun u hu => by
      obtain ⟨j, hj⟩ := List.mem_iff_getElem?.1 hu
      obtain ⟨h1, h2⟩ := hat j u hj
      have := hc (j / 9) (by omega) (j % 9) (Nat.mod_lt _ (by decide))
      rw [show j / 9 * 9 + j % 9 = j by omega, h2] at this
      cases this; exact fv_one _ _)).mono ?_
  rintro _ w' ⟨v, rfl, ⟨_, hv⟩, hn, hB⟩
  rcases hv with ⟨rfl, _⟩ | ⟨g', cap', cur, rfl, hg, hcur, hcap, _, hsz, htk⟩
  · exact absurd rfl hn
  · refine ⟨g', cap', rfl, hcap, ⟨cur, hcur, by omega, fun i hi f hf => ?_⟩, hg, Fr.of_below hB⟩
    rw [← hc i hi f hf]
    have h1 : (cur.toList.take (N * 9))[i * 9 + f]? = cur[i * 9 + f]? := by rw [List.getElem?_take, if_pos (by omega)]; simp
    have h2 : (arr.toList.take (N * 9))[i * 9 + f]? = arr[i * 9 + f]? := by rw [List.getElem?_take, if_pos (by omega)]; simp
    rw [← h1, ← h2, htk]

theorem copy_w {w : World} {pf g n : Nat} {E : Nat → Nat → Prop} {key : Nat → Int} (h : LM w pf g n E key) :
    Calls Try.prog 29 #[.pointer (some ⟨pf, 0, none⟩)] w fun e w' => ∃ pf' g', e = .returned (.pointer (some ⟨pf', 0, none⟩)) ∧ LM w' pf' g' n E key ∧ Fr [] w w' ∧ w.heap.size ≤ pf' ∧ w.heap.size ≤ g' := by
  have H := Lib.hid h
  obtain ⟨cap, σ, F, par, d, rt, hL, hF, hE, hk⟩ := h
  have hN := hL.le
  have HR := Lib.hid (And.intro hF (And.intro hE hk)); clear hF hE hk
  have c1 := hL.hd.cell 1
  have c2 := hL.hd.cell 2
  simp only [List.getElem?_cons_zero, List.getElem?_cons_succ] at c1 c2
  have hpf := hL.hd.lt
  have HL := Lib.hid hL
  go_enter Try.func29, Try.ntmps29
  go_wp2_with fail
  refine (valid_w (hL.hd.cell 0)).mono ?_
  rintro _ w1 ⟨rfl, rfl⟩
  have HC := Lib.hid (clone_w (cap := cap) (hL.nodes.eqv (Eqv.drew w1)) hN (by omega))
  generalize hed : (n : Int) - nc n E = ed at *
  go_wp2
  go_region_held3 (fun w' => w'.cell? ⟨pf, 1, none⟩ = some (.slice (some ⟨g, 0, none⟩) (n + 1) cap) ∧ w'.cell? ⟨pf, 2, none⟩ = some (.int .i64 ed))
    (first
      | go_keep
      | (exact ⟨hF3.cell (by assumption) (by simp), hF3.cell (by assumption) (by simp)⟩))
    (first
      | (go_at_call 49; refine HC.out.mono ?_; rintro e w3 ⟨g', cap', rfl, hcap', hNd', hg', hF3⟩))
  go_wp2
  go_ret
  have hlt := hNd'.lt
  have hsz := hF3.size
  have hsz2 : w1.drew.heap.size = w1.heap.size := rfl
  refine ⟨w3.heap.size, g', rfl, ?_, ((Fr.refl [] w1).drew.trans' hF3).alloc _, by omega, by omega⟩
  show LG _ _ _ _ _ _ ((n : Int) - nc n E)
  rw [hed]
  exact ⟨cap', σ, F, par, d, rt, ⟨Blk.new w3 [_, _, _] 65, hNd'.same (by rw [heap_alloc_old w3 _ hlt]), by omega, hN, hcap'⟩, HR.out.1, HR.out.2.1, HR.out.2.2⟩

end Go.Proofs.Ytoppjjgecgbbkaa

/- A region that draws its order, whose operations give the same values in every world of a class and keep the class: one walk in the order of the text serves every order. -/
namespace Go.Proofs.Ytoppjjgecgbbkaa
open Go.RowKit

section
variable {P : Program} {ops : Array Oper} {C : World → Prop}
theorem region_class {id : Nat} {Q : Exit → Act → World → Prop} {a : Act} {w : World} {l : List Oper} (C : World → Prop) (hm : P.follows .mixedOrders = true) (hB : Region.lexB .any l.toArray = true) (hC : C w.drew)
    (h : wpQuiet P l.toArray C (fun a' => ∀ w', C w' → Q .normal a' w') l a) : (Code.region id l.toArray true).wp P Q a w :=
  wp_region_quiet hm hB hC (by simpa using h)
theorem cWalk_pure {Q : Act → Prop} {o : Oper} {rest : List Oper} {a : Act}
    (h : ∀ K : Act → Prop, (∀ a, wpQuiet P ops C Q rest a → K a) → if Region.wanted o (yielded ops a.tmps) then Oper.pure_ P o a K else K (a.put o.dst undef)) : wpQuiet P ops C Q (o :: rest) a := by
  have h := h _ (fun _ h => h)
  unfold wpQuiet
  by_cases hw : Region.wanted o (yielded ops a.tmps) = true
  · rw [if_pos hw] at *
    obtain ⟨v, h1, h2⟩ := h
    refine ⟨v, fun w _ => ?_, h2⟩
    have := h1 w
    unfold Oper.quietAt
    revert this
    generalize (execOp a.eval o).run P w = r
    intro this
    cases r with
    | halt x w' => exact this.elim
    | ok x w' =>
      cases x with
      | value u => exact ⟨this.1, this.2⟩
      | skip => exact ⟨this.1, this.2⟩
      | _ => exact this.elim
  · rw [if_neg hw] at *; exact h
theorem cWalk_val {Q : Act → Prop} {o : Oper} {rest : List Oper} {a : Act} (hg : o.guard = none) (v : Value)
    (h0 : ∀ w, C w → Oper.quietUpon P C w v ((execOp a.eval o).run P w)) (h : wpQuiet P ops C Q rest (a.put o.dst v)) : wpQuiet P ops C Q (o :: rest) a := by
  unfold wpQuiet
  rw [if_pos (by simp [Region.wanted, hg])]
  exact ⟨v, h0, h⟩
theorem cWalk_nil {Q : Act → Prop} {a : Act} (h : Q a) : wpQuiet P ops C Q [] a := h
end
end Go.Proofs.Ytoppjjgecgbbkaa

namespace Go.Proofs.Ytoppjjgecgbbkaa
open Go.RowKit Classical
set_option maxRecDepth 10000
set_option maxHeartbeats 1600000

section
variable {n : Nat} {E : Nat → Nat → Prop}
theorem wk_del {a b : Nat} : ∀ {x : Nat} {l : List Nat}, Wk E x l → a ∉ x :: l → Wk (delE E a b) x l
  | _, [], _, _ => trivial
  | x, y :: l, ⟨h1, h2⟩, hn => by
    simp only [List.mem_cons, not_or] at hn
    exact ⟨⟨h1, fun e => hn.1 e.1.symm, fun e => hn.2.1 e.2.symm⟩, wk_del h2 (by simp [hn.2.1, hn.2.2])⟩
theorem isPath_mono {E' : Nat → Nat → Prop} (h : ∀ v u, E v u → E' v u) {a b : Nat} {p : List Nat} (hp : IsPath E a b p) : IsPath E' a b p := by
  obtain ⟨l, e, hw, hn, hl⟩ := hp
  exact ⟨l, e, wk_mono h hw, hn, hl⟩
theorem del_conn (h : Frs E) {a b v : Nat} (_he : E a b) {p : List Nat} (hp : IsPath E a v p) : Conn (delE E a b) a v ↔ p[1]? ≠ some b := by
  constructor
  · rintro ⟨q, hq⟩ e
    have := h.unique (isPath_mono (fun _ _ h => h.1) hq) hp
    subst this
    obtain ⟨l, rfl, hw, _, _⟩ := hq
    match l, hw, e with
    | y :: l, ⟨h1, _⟩, e =>
      simp at e; subst e
      exact h1.2.1 ⟨rfl, rfl⟩
  · intro hne
    obtain ⟨l, rfl, hw, hn, hl⟩ := hp
    refine ⟨a :: l, l, rfl, ?_, hn, hl⟩
    match l, hw, hn, hne with
    | [], _, _, _ => trivial
    | y :: l, ⟨h1, h2⟩, hn, hne =>
      have hay : a ∉ y :: l := (List.nodup_cons.1 hn).1
      refine ⟨⟨h1, fun e => hne (by simp [e.2]), fun e => hay (by simp [e.2])⟩, wk_del h2 hay⟩
noncomputable def overB (n : Nat) (E : Nat → Nat → Prop) (a b v : Nat) : Bool := decide ((pathL n E a v)[1]? = some b)
theorem cut_conn (h : Frs E) {a b v : Nat} (he : E a b) : connB n (delE E a b) a v = (connB n E a v && !overB n E a b v) := by
  rw [Bool.eq_iff_iff]
  simp only [Bool.and_eq_true, connB_iff]
  by_cases hc : ConnI n E a v
  · have hp := pathL_is hc
    simp only [Int.toNat_natCast] at hp
    have := del_conn h he hp
    constructor
    · rintro ⟨_, _, hx⟩
      simp only [Int.toNat_natCast] at hx
      exact ⟨hc, by simpa [overB] using this.1 hx⟩
    · rintro ⟨_, ho⟩
      refine ⟨hc.1, hc.2.1, ?_⟩
      simp only [Int.toNat_natCast]
      exact this.2 (by simpa [overB] using ho)
  · constructor
    · rintro ⟨h1, h2, q, hq⟩
      exact absurd ⟨h1, h2, q, isPath_mono (fun _ _ h => h.1) hq⟩ hc
    · exact fun h => absurd h.1 hc
theorem del_none {a b : Nat} : ¬ delE E a b a b := fun h => h.2.1 ⟨rfl, rfl⟩
theorem add_comm (E : Nat → Nat → Prop) (a b : Nat) : addE E a b = addE E b a := E_ext (fun v u => by unfold addE; constructor <;> rintro (h | h | h) <;> simp [h])
end

/-- Two forests and a pair, made since the call began. -/
structure Own2 (w wr : World) (pf g pf' g' bx n : Nat) (E E' : Nat → Nat → Prop) (a b : Nat) : Prop where
  lm : LM wr pf g n E (fun _ => 0)
  lm' : LM wr pf' g' n E' (fun _ => 0)
  fr : Fr [] w wr
  new : w.heap.size ≤ pf ∧ w.heap.size ≤ g ∧ w.heap.size ≤ pf' ∧ w.heap.size ≤ g'
  apart : pf ≠ pf' ∧ pf ≠ g' ∧ g ≠ pf' ∧ g ≠ g' ∧ bx ≠ pf ∧ bx ≠ g ∧ bx ≠ pf' ∧ bx ≠ g'
  box : Blk wr bx 30 [.int .i64 a, .int .i64 b]
section
variable {w wr w' : World} {pf g pf' g' bx n : Nat} {E E' E'' : Nat → Nat → Prop} {a b : Nat} (h : Own2 w wr pf g pf' g' bx n E E' a b)
include h
theorem Own2.ask (hl : LG w' pf g n E (fun _ => 0) ((n : Int) - nc n E)) (hf : Fr [g] wr w') : Own2 w w' pf g pf' g' bx n E E' a b := by
  have h1 := h.new; have h2 := h.apart
  exact ⟨hl, LG.fr h.lm' hf (by simp; omega) (by simp; omega), h.fr.trans hf (fun q hq => .inr (by simp at hq; omega)), h.new, h.apart, hf.blk h.box (by simp; omega)⟩
theorem Own2.next' (hl : LM w' pf' g' n E'' (fun _ => 0)) (hf : Fr [pf', g'] wr w') : Own2 w w' pf g pf' g' bx n E E'' a b := by
  have h1 := h.new; have h2 := h.apart
  exact ⟨LG.fr h.lm hf (by simp; omega) (by simp; omega), hl, h.fr.trans hf (fun q hq => .inr (by simp at hq; omega)), h.new, h.apart, hf.blk h.box (by simp; omega)⟩
theorem Own2.ask' (hl : LG w' pf' g' n E' (fun _ => 0) ((n : Int) - nc n E')) (hf : Fr [g'] wr w') : Own2 w w' pf g pf' g' bx n E E' a b :=
  h.next' hl (hf.mono (fun q hq => .inl (by simp at hq; simp [hq])))
theorem Own2.drew (k : Nat) : Own2 w (wr.drewN k) pf g pf' g' bx n E E' a b :=
  h.ask (LG.fr h.lm ((Fr.refl [] wr).drewN k) (by simp) (by simp)) ((Fr.refl _ _).drewN k)
theorem Own2.below : Below w.heap.size w wr := h.fr.below (by simp)
end

theorem walk_lctCuts (W : World) (n : Int) (_wn : (Lit.int .i64 n).wf = true) (a : Option Addr) (len cap : Nat) (z : Nat → Int × Int) (hz : PairsF W a len z) (wh : Int) (wwh : (Lit.int .u8 wh).wf = true) :
    Calls Try.prog 9 #[.int .i64 n, .slice a len cap, .int .u8 wh] W fun e w' => e = .returned (.bool true) ∧ Below W.heap.size W w' := by
  have hl63 := hz.1
  have HZ := Lib.hid hz; clear hz
  by_cases hsm : 0 ≤ n ∧ n ≤ 60 ∧ len ≤ 60
  · obtain ⟨h0, h1, hlen⟩ := hsm
    obtain ⟨n, rfl⟩ : ∃ m : Nat, n = m := ⟨n.toNat, by omega⟩
    have hn3 : n ≤ 60 := by omega
    have hd0 : decide ((n : Int) < 0) = false := decide_eq_false (by omega)
    have hd1 : decide ((n : Int) > 60) = false := decide_eq_false (by omega)
    have hd2 : decide ((len : Int) > 60) = false := decide_eq_false (by omega)
    have hwh : 0 ≤ wh ∧ wh < 256 := by
      simp only [Lit.wf, Bool.and_eq_true, decide_eq_true_eq] at wwh
      rw [show IntKind.u8.min = 0 from rfl, show IntKind.u8.max = 255 from rfl] at wwh
      omega
    go_enter Try.func9, Try.ntmps9
    go_wp2_with fail
    refine (grown_w W n (by omega) a len cap (by omega) z HZ.out).mono ?_
    rintro _ w1 ⟨pf, g, v, rfl, hO, hown, hq⟩
    have hKl : (growK n z len).length ≤ 60 := Nat.le_trans (growK_len n z len) hlen
    have hKv := (growK_once n z len).2
    generalize growK n z len = K at *
    obtain ⟨a1, c1, rfl⟩ := ownsRow_slice hown
    have Hfs := Lib.hid (LG.frs hO.lm)
    have Hlt := Lib.hid (fun v u => LG.edge_lt hO.lm (v := v) (u := u))
    have HO := Lib.hid hO; clear hO
    have HQ := Lib.hid hq; clear hq
    by_cases hK0 : K.length = 0
    · have hb0 : ((K.length : Int) == 0) = true := beq_iff_eq.2 (by omega)
      go_wp2_with fail
      refine (works_w _).mono ?_
      rintro _ w6 ⟨rfl, hB⟩
      go_wp2
      go_ret
      exact ⟨rfl, HO.out.below.trans (hB.mono HO.out.fr.size)⟩
    · have hb0 : ((K.length : Int) == 0) = false := beq_eq_false_iff_ne.2 (by omega)
      obtain ⟨wn, hwn⟩ : ∃ m : Nat, wh = m := ⟨wh.toNat, by omega⟩
      subst hwn
      have hjK : wn % K.length < K.length := Nat.mod_lt _ (by omega)
      obtain ⟨a1', c1', e1, hPF⟩ := pairs_of_row hown (by omega)
      simp only [Value.slice.injEq, true_and] at e1
      obtain ⟨rfl, rfl⟩ := e1
      obtain ⟨b5, off, rfl, hb5, q50, q51⟩ := hPF.2 _ hjK
      dsimp only at q50 q51
      rw [List.getD_eq_getElem?_getD, List.getElem?_eq_getElem hjK, Option.getD_some] at q50 q51
      have hmem : K[wn % K.length]'hjK ∈ K := List.getElem_mem hjK
      obtain ⟨hx0, hx1, hxn⟩ := hKv _ hmem
      have hE : EK K (K[wn % K.length]'hjK).1 (K[wn % K.length]'hjK).2 := .inl hmem
      generalize (K[wn % K.length]'hjK).1 = x0 at *
      generalize (K[wn % K.length]'hjK).2 = x1 at *
      have HE := Lib.hid hE; clear hE hmem hKv hPF hown
      have Hxn := Lib.hid hxn; clear hxn
      have hw1 : IntKind.i64.wrap (wn : Int) = wn := IntWalk.i64_in _ (by omega)
      have hw2 : (wn : Int).tmod (K.length : Int) = ((wn % K.length : Nat) : Int) := by rw [Int.tmod_eq_emod_of_nonneg (by omega)]; simp
      have hj1 : ((wn % K.length : Nat) : Int) < (K.length : Int) := by omega
      have hj0 : (0 : Int) ≤ ((wn % K.length : Nat) : Int) := by omega
      have HK0 := Lib.hid hK0
      generalize wn % K.length = jx at *
      have hMa := LG.fr HO.out.lm ((Fr.refl [] w1).alloc (.cells #[.int .i64 x0, .int .i64 x1] 30)) (by simp) (by simp)
      have hbx : Blk (w1.alloc (.cells #[.int .i64 x0, .int .i64 x1] 30)) w1.heap.size 30 [.int .i64 x0, .int .i64 x1] := Blk.new w1 [_, _] _
      have hFa : Fr [] w1 (w1.alloc (.cells #[.int .i64 x0, .int .i64 x1] 30)) := (Fr.refl [] w1).alloc _
      have HCp := Lib.hid (copy_w hMa)
      have Hbx := Lib.hid (And.intro hbx hFa); clear hbx hMa hFa
      go_wp2_with fail
      refine HCp.out.mono ?_
      clear HCp
      rintro _ w2 ⟨pf', g', rfl, hL2, hF2, hpf', hg'⟩
      have hO2 : Own2 W w2 pf g pf' g' w1.heap.size n (EK K) (EK K) x0 x1 := by
        have h1 := LG.lts HO.out.lm
        have h2 := HO.out.pf; have h3 := HO.out.g; have h4 := HO.out.fr.size
        have hF1 := Hbx.out.2.trans' hF2
        simp only [World.size_alloc] at hpf' hg'
        exact ⟨LG.fr HO.out.lm hF1 (by simp) (by simp), hL2, HO.out.fr.trans' hF1, ⟨h2, h3, by omega, by omega⟩, by omega, hF2.blk Hbx.out.1 (by simp)⟩
      clear hL2 hF2 hpf' hg' Hbx HO q50 q51 HQ
      generalize w1.heap.size = bx at *
      have c0 := hO2.box.cell 0
      have c1' := hO2.box.cell 1
      simp only [List.getElem?_cons_zero, List.getElem?_cons_succ] at c0 c1'
      have iv0 : inV n (x0 : Int) = true := by simp [inV]; omega
      have iv1 : inV n (x1 : Int) = true := by simp [inV]; omega
      have Hcut := Lib.hid (show cutCode n (EK K) x0 x1 = 0 ∧ cutE n (EK K) x0 x1 = delE (EK K) x0 x1 by
        have h : cutCode n (EK K) x0 x1 = 0 := by unfold cutCode; rw [if_pos ⟨iv0, iv1⟩, Int.toNat_natCast, Int.toNat_natCast, if_pos HE.out]
        refine ⟨h, ?_⟩
        unfold cutE; rw [if_pos h, Int.toNat_natCast, Int.toNat_natCast])
      have Hcut2 := Lib.hid (show cutCode n (delE (EK K) x0 x1) x0 x1 = 5 ∧ cutE n (delE (EK K) x0 x1) x0 x1 = delE (EK K) x0 x1 by
        have h : cutCode n (delE (EK K) x0 x1) x0 x1 = 5 := by unfold cutCode; rw [if_pos ⟨iv0, iv1⟩, Int.toNat_natCast, Int.toNat_natCast, if_neg del_none]
        refine ⟨h, ?_⟩
        unfold cutE; rw [h]; simp)
      have hsep := del_sep Hfs.out HE.out
      clear iv0 iv1
      have hcut := cut_w hO2.lm' (x0 : Int) (x1 : Int)
      rw [Hcut.out.1, Hcut.out.2] at hcut
      have HC := Lib.hid hcut; clear hcut
      have HO2 := Lib.hid hO2; clear hO2
      have Hsep := Lib.hid hsep; clear hsep
      go_wp2_with fail
      refine HC.out.mono ?_
      rintro _ w3 ⟨rfl, hL3, hF3⟩
      have HO3 := Lib.hid (HO2.out.next' hL3 hF3)
      have Hfd := Lib.hid (LG.frs hL3)
      have Hnc := Lib.hid (nc_del (n := n) Hfs.out Hfd.out HE.out hx0 hx1)
      clear hL3 hF3 HC HO2 c0 c1' Hcut
      have hT1 := trees_w HO3.out.lm'
      have hT2 := fun k => trees_w (HO3.out.drew k).lm
      have hnle := nc_le n (EK K)
      rw [Hnc.out] at hT1
      have HT1 := Lib.hid hT1; clear hT1
      have HT2 := Lib.hid hT2; clear hT2
      have Hcc := Lib.hid (fun v : Nat => cut_conn (n := n) (v := v) Hfs.out HE.out)
      have Hre := Lib.hid (show addE (delE (EK K) x0 x1) x1 x0 = EK K by rw [add_comm, add_del Hfs.out HE.out])
      obtain ⟨ncE, hncE⟩ : ∃ m, nc n (EK K) = m := ⟨_, rfl⟩
      rw [hncE] at HT1 HT2 hnle
      have HncE := Lib.hid hncE; clear hncE
      go_wp2_with fail
      refine HT1.out.mono ?_
      rintro _ w4 ⟨rfl, k4, rfl⟩
      go_wp2_with fail
      refine (HT2.out _).mono ?_
      rintro _ w5 ⟨rfl, k5, rfl⟩
      have HO5 := Lib.hid ((HO3.out.drew k4).drew k5)
      generalize (w3.drewN k4).drewN k5 = w5 at *
      have hne0 : (((ncE + 1 : Nat) : Int) != (ncE : Int) + 1) = false := by simp
      clear HT1 HT2 HO3
      go_wp2
      go_loopw [11] (fun i wr => ∃ v : Nat, v ≤ n ∧ i = .int .i64 v ∧ Hid (Own2 W wr pf g pf' g' bx n (EK K) (delE (EK K) x0 x1) x0 x1)) (fun i _ => n - (intOf i).toNat)
      case atStart => exact ⟨0, Nat.zero_le _, rfl, HO5⟩
      case round =>
        clear HO5
        obtain ⟨v, hv, rfl, HO⟩ := hrel
        by_cases hlt : v < n
        · have c0 := HO.out.box.cell 0
          simp only [List.getElem?_cons_zero, List.getElem?_cons_succ] at c0
          have hvn : (v : Int) < n := by omega
          go_wp2_with fail
          refine (pathf_w HO.out.lm (x0 : Int) (v : Int)).mono ?_
          rintro _ w6 ⟨vp, rfl, rp, op, h6, f6⟩
          have HO6 := Lib.hid (HO.out.ask h6 f6)
          have R2 := Lib.hid (show RowN w6 vp (pathL n (EK K) x0 v) from rp)
          have hcc := Hcc.out v
          obtain ⟨ov, hov⟩ : ∃ ov, overB n (EK K) x0 x1 v = ov := ⟨_, rfl⟩
          obtain ⟨cc, hcd⟩ : ∃ cc, connB n (EK K) x0 v = cc := ⟨_, rfl⟩
          rw [hov, hcd] at hcc
          have hov2 : decide ((pathL n (EK K) x0 v)[1]? = some x1) = ov := hov
          have hpl : (pathL n (EK K) x0 v).length ≤ 60 := Nat.le_trans (nodup_le (pathL_nd _ _) (pathL_lt Hlt.out)) hn3
          generalize pathL n (EK K) x0 v = p at *
          obtain ⟨ap, cp, rfl⟩ := R2.out.slice
          have Hcf := Lib.hid (fun (w' : World) (h : Own2 W w' pf g pf' g' bx n (EK K) (delE (EK K) x0 x1) x0 x1) => (show Calls Try.prog 15 #[.pointer (some ⟨pf, 0, none⟩), .int .i64 x0, .int .i64 v] w' fun e w'' => e = .returned (.bool cc) ∧ Own2 W w'' pf g pf' g' bx n (EK K) (delE (EK K) x0 x1) x0 x1 by
            have := connected_d h.lm (x0 : Int) (v : Int)
            rw [hcd] at this
            refine this.mono ?_
            rintro _ w'' ⟨rfl, h1, h2⟩
            exact ⟨rfl, h.ask h1 h2⟩))
          have Hcg := Lib.hid (fun (w' : World) (h : Own2 W w' pf g pf' g' bx n (EK K) (delE (EK K) x0 x1) x0 x1) => (show Calls Try.prog 15 #[.pointer (some ⟨pf', 0, none⟩), .int .i64 x0, .int .i64 v] w' fun e w'' => e = .returned (.bool (cc && !ov)) ∧ Own2 W w'' pf g pf' g' bx n (EK K) (delE (EK K) x0 x1) x0 x1 by
            have := connected_d h.lm' (x0 : Int) (v : Int)
            rw [hcc] at this
            refine this.mono ?_
            rintro _ w'' ⟨rfl, h1, h2⟩
            exact ⟨rfl, h.ask' h1 h2⟩))
          clear hcc hov hcd rp h6 f6 op
          have c6 := HO6.out.box.cell 0
          have d6 := HO6.out.box.cell 1
          simp only [List.getElem?_cons_zero, List.getElem?_cons_succ] at c6 d6
          have hO6 : ∀ k, Own2 W (w6.drewN k).drew pf g pf' g' bx n (EK K) (delE (EK K) x0 x1) x0 x1 := fun k => (HO6.out.drew k).drew 1
          by_cases h1p : 1 < p.length
          · obtain ⟨b2, c2', e2, _, q2⟩ := R2.out.at h1p
            simp only [Value.slice.injEq, true_and] at e2
            obtain ⟨rfl, rfl⟩ := e2
            rw [List.getElem?_eq_getElem h1p] at hov2
            have hov3 : (((p[1]'h1p : Nat) : Int) == (x1 : Int)) = ov := by
              rw [← hov2, Bool.eq_iff_iff]; simp only [beq_iff_eq, decide_eq_true_eq, Option.some.injEq]; omega
            clear hov2
            generalize p[1]'h1p = p1 at *
            have hd1 : decide ((p.length : Int) > 1) = true := decide_eq_true (by omega)
            have hi1 : (1 : Int) < p.length := by omega
            go_wp2
            go_quiet (fail)
            clear q2 hov3
            go_wp2
            refine region_class (fun w' => Own2 W w' pf g pf' g' bx n (EK K) (delE (EK K) x0 x1) x0 x1) (by kernel_rfl) (by kernel_rfl) (hO6 _) ?_
            iterate 2 (refine cWalk_pure (fun KK hK => ?_); go_simp; refine hK _ ?_; clear hK KK)
            refine cWalk_val rfl (.int .i64 x0) (fun w' hw' => ?_) ?_
            · have c0 := hw'.box.cell 0
              simp only [List.getElem?_cons_zero] at c0
              go_simp
            iterate 1 (refine cWalk_pure (fun KK hK => ?_); go_simp; refine hK _ ?_; clear hK KK)
            refine cWalk_val rfl (.bool (cc && !ov)) (fun w' hw' => ?_) ?_
            · go_simp
              exact Hcg.out _ hw'
            iterate 2 (refine cWalk_pure (fun KK hK => ?_); go_simp; refine hK _ ?_; clear hK KK)
            refine cWalk_val rfl (.int .i64 x0) (fun w' hw' => ?_) ?_
            · have c0 := hw'.box.cell 0
              simp only [List.getElem?_cons_zero] at c0
              go_simp
            iterate 1 (refine cWalk_pure (fun KK hK => ?_); go_simp; refine hK _ ?_; clear hK KK)
            refine cWalk_val rfl (.bool cc) (fun w' hw' => ?_) ?_
            · go_simp
              exact Hcf.out _ hw'
            clear Hcf Hcg hO6 c6 d6 HO6 HO R2
            cases cc <;> cases ov
            all_goals iterate 5 (refine cWalk_pure (fun KK hK => ?_); go_simp; refine hK _ ?_; clear hK KK)
            all_goals refine cWalk_nil ?_
            all_goals intro w7 h7
            all_goals go_wp2
            all_goals go_roundw
            all_goals first
              | (refine ⟨v + 1, by omega, by go_num, Lib.hid h7⟩)
              | (simp [intOf]; omega)
          · have hov3 : ov = false := by
              rw [← hov2, List.getElem?_eq_none (by omega)]; rfl
            clear hov2
            subst hov3
            have hd1 : decide ((p.length : Int) > 1) = false := decide_eq_false (by omega)
            simp only [Bool.not_false, Bool.and_true] at Hcg
            go_wp2
            go_quiet (fail)
            go_wp2
            refine region_class (fun w' => Own2 W w' pf g pf' g' bx n (EK K) (delE (EK K) x0 x1) x0 x1) (by kernel_rfl) (by kernel_rfl) (hO6 _) ?_
            iterate 2 (refine cWalk_pure (fun KK hK => ?_); go_simp; refine hK _ ?_; clear hK KK)
            refine cWalk_val rfl (.int .i64 x0) (fun w' hw' => ?_) ?_
            · have c0 := hw'.box.cell 0
              simp only [List.getElem?_cons_zero] at c0
              go_simp
            iterate 1 (refine cWalk_pure (fun KK hK => ?_); go_simp; refine hK _ ?_; clear hK KK)
            refine cWalk_val rfl (.bool cc) (fun w' hw' => ?_) ?_
            · go_simp
              exact Hcg.out _ hw'
            iterate 2 (refine cWalk_pure (fun KK hK => ?_); go_simp; refine hK _ ?_; clear hK KK)
            refine cWalk_val rfl (.int .i64 x0) (fun w' hw' => ?_) ?_
            · have c0 := hw'.box.cell 0
              simp only [List.getElem?_cons_zero] at c0
              go_simp
            iterate 1 (refine cWalk_pure (fun KK hK => ?_); go_simp; refine hK _ ?_; clear hK KK)
            refine cWalk_val rfl (.bool cc) (fun w' hw' => ?_) ?_
            · go_simp
              exact Hcf.out _ hw'
            clear Hcf Hcg hO6 c6 d6 HO6 HO R2
            cases cc
            all_goals iterate 5 (refine cWalk_pure (fun KK hK => ?_); go_simp; refine hK _ ?_; clear hK KK)
            all_goals refine cWalk_nil ?_
            all_goals intro w7 h7
            all_goals go_wp2
            all_goals go_roundw
            all_goals first
              | (refine ⟨v + 1, by omega, by go_num, Lib.hid h7⟩)
              | (simp [intOf]; omega)
        · have hve : v = n := by omega
          subst hve
          have hvn : ¬ ((v : Int) < v) := by omega
          clear hlt Hcc Hnc
          have c0 := HO.out.box.cell 0
          have d0 := HO.out.box.cell 1
          simp only [List.getElem?_cons_zero, List.getElem?_cons_succ] at c0 d0
          have hcut := cut_w HO.out.lm' (x0 : Int) (x1 : Int)
          rw [Hcut2.out.1, Hcut2.out.2] at hcut
          have HC := Lib.hid hcut; clear hcut
          go_wp2_with fail
          refine HC.out.mono ?_
          rintro _ w6 ⟨rfl, hL6, hF6⟩
          have HO6 := Lib.hid (HO.out.next' hL6 hF6)
          clear hL6 hF6 HC HO c0 d0
          have c0 := HO6.out.box.cell 0
          have d0 := HO6.out.box.cell 1
          simp only [List.getElem?_cons_zero, List.getElem?_cons_succ] at c0 d0
          have hlk : linkCode v (delE (EK K) x0 x1) x1 x0 = 0 := by
            have iv0 : inV v (x0 : Int) = true := by simp [inV]; omega
            have iv1 : inV v (x1 : Int) = true := by simp [inV]; omega
            unfold linkCode
            rw [if_pos ⟨iv1, iv0⟩, Int.toNat_natCast, Int.toNat_natCast, if_neg (fun e => Hxn.out (by omega)), if_neg]
            exact fun hc => Hsep.out (Hfd.out.csymm hc)
          have hle : linkE v (delE (EK K) x0 x1) x1 x0 = EK K := by
            unfold linkE; rw [if_pos hlk, Int.toNat_natCast, Int.toNat_natCast, Hre.out]
          have hlw := link_w HO6.out.lm' (x1 : Int) (x0 : Int)
          rw [hlk, hle] at hlw
          have HC := Lib.hid hlw; clear hlw hlk hle
          go_wp2_with fail
          refine HC.out.mono ?_
          rintro _ w7 ⟨rfl, hL7, hF7⟩
          have HO7 := Lib.hid (HO6.out.next' hL7 hF7)
          clear hL7 hF7 HC HO6 c0 d0
          clear Hcut2 Hsep Hre HncE Hfd
          have Hpl := Lib.hid (fun u : Nat => show (pathL v (EK K) x0 u).length ≤ 65536 from Nat.le_trans (Nat.le_trans (nodup_le (pathL_nd _ _) (pathL_lt Hlt.out)) hn3) (by omega))
          go_wp2
          go_loopw [14] (fun i wr => ∃ u : Nat, u ≤ v ∧ i = .int .i64 u ∧ Hid (Own2 W wr pf g pf' g' bx v (EK K) (EK K) x0 x1)) (fun i _ => v - (intOf i).toNat)
          case atStart => exact ⟨0, Nat.zero_le _, rfl, HO7⟩
          case round =>
            clear HO7
            obtain ⟨u, hu, rfl, HO⟩ := hrel
            by_cases hlt : u < v
            · have c0 := HO.out.box.cell 0
              simp only [List.getElem?_cons_zero, List.getElem?_cons_succ] at c0
              have hvu : (u : Int) < v := by omega
              have hO1 : Own2 W wr.drew pf g pf' g' bx v (EK K) (EK K) x0 x1 := HO.out.drew 1
              have HpA := Lib.hid (show Calls Try.prog 22 #[.pointer (some ⟨pf', 0, none⟩), .int .i64 x0, .int .i64 u] wr.drew (fun e wA => ∃ vA, e = .returned vA ∧ Own2 W wA pf g pf' g' bx v (EK K) (EK K) x0 x1 ∧
                  Calls Try.prog 22 #[.pointer (some ⟨pf, 0, none⟩), .int .i64 x0, .int .i64 u] wA (fun e wB => ∃ vB, e = .returned vB ∧ Own2 W wB pf g pf' g' bx v (EK K) (EK K) x0 x1 ∧
                    Calls Try.prog 23 #[vA, vB] wB (fun e wC => e = .returned (.bool true) ∧ Own2 W wC pf g pf' g' bx v (EK K) (EK K) x0 x1))) by
                refine (pathf_w hO1.lm' (x0 : Int) (u : Int)).mono ?_
                rintro e wA ⟨vA, rfl, rA, oA, lA, fA⟩
                have hA := hO1.ask' lA fA
                refine ⟨vA, rfl, hA, ?_⟩
                refine (pathf_w hA.lm (x0 : Int) (u : Int)).mono ?_
                rintro e wB ⟨vB, rfl, rB, oB, lB, fB⟩
                have hB := hA.ask lB fB
                refine ⟨vB, rfl, hB, ?_⟩
                have rA2 : RowN wB vA (pathL v (EK K) x0 u) := RowN.fr rA fB (fun q hq => by
                  have h1 := oA q hq
                  have h2 := LG.lts hO1.lm
                  simp; omega)
                refine (same_w rA2 rB (Hpl.out u) (Hpl.out u)).mono ?_
                rintro e wC ⟨rfl, kC, rfl⟩
                exact ⟨by rw [decide_eq_true rfl], hB.drew kC⟩)
              go_wp2
              go_region_held3 (fun w' => w'.cell? ⟨bx, 0, none⟩ = some (.int .i64 x0))
                (first
                  | go_keep
                  | (exact hC.box.cell 0)
                  | (exact hB.box.cell 0)
                  | (exact hA.box.cell 0))
                (first
                  | (go_at_call 22; with_reducible refine HpA.out.mono ?_; rintro e wA ⟨vA, rfl, hA, hcA⟩)
                  | (go_at_call 22; with_reducible refine hcA.mono ?_; rintro e wB ⟨vB, rfl, hB, hcB⟩)
                  | (go_at_call 23; with_reducible refine hcB.mono ?_; rintro e wC ⟨rfl, hC⟩))
              go_wp2
              go_roundw
              case rel => exact ⟨u + 1, by omega, by go_num, Lib.hid hC⟩
              case measure => simp [intOf]; omega
            · have hve : u = v := by omega
              subst hve
              have hvn : ¬ ((u : Int) < u) := by omega
              go_wp2_with fail
              refine (works_w _).mono ?_
              rintro _ w6 ⟨rfl, hB⟩
              go_wp2
              go_ret
              exact ⟨rfl, HO.out.below.trans (hB.mono HO.out.fr.size)⟩
  · by_cases h1 : n < 0
    · have hd0 : decide (n < 0) = true := decide_eq_true h1
      go_enter Try.func9, Try.ntmps9
      go_wp2_with fail
      refine (works_w _).mono ?_
      rintro _ w6 ⟨rfl, hB⟩
      go_wp2
      go_ret
      exact ⟨rfl, hB⟩
    · have hd0 : decide (n < 0) = false := decide_eq_false h1
      by_cases h2 : n > 60
      · have hd1 : decide (n > 60) = true := decide_eq_true h2
        go_enter Try.func9, Try.ntmps9
        go_wp2_with fail
        refine (works_w _).mono ?_
        rintro _ w6 ⟨rfl, hB⟩
        go_wp2
        go_ret
        exact ⟨rfl, hB⟩
      · have hd1 : decide (n > 60) = false := decide_eq_false h2
        have hd2 : decide ((len : Int) > 60) = true := decide_eq_true (by omega)
        go_enter Try.func9, Try.ntmps9
        go_wp2_with fail
        refine (works_w _).mono ?_
        rintro _ w6 ⟨rfl, hB⟩
        go_wp2
        go_ret
        exact ⟨rfl, hB⟩

end Go.Proofs.Ytoppjjgecgbbkaa
