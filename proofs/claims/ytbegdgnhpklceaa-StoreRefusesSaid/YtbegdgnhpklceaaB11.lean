/- store: Check. -/
import Derived.Test.YtbegdgnhpklceaaB1
import Derived.Test.YtbegdgnhpklceaaB5
import Derived.Test.YtbegdgnhpklceaaB10
set_option linter.unusedSimpArgs false
set_option linter.unusedVariables false
/- 'append(nil, s...)': a copy of a row of one's own. -/
namespace Go.Proofs.Ytbegdgnhpklceaa
open Go.RowKit

theorem ownsRow_base0 {w : World} {base : Nat} {e : TypeId} {size : Nat} {v : Value} {n : Nat} {xs : List Value} (h : w.ownsRow base e size v n xs) : w.ownsRow 0 e size v n xs :=
  ⟨h.1, h.2.elim .inl (fun ⟨g, cap, cur, k1, _, k3⟩ => .inr ⟨g, cap, cur, k1, Nat.zero_le _, k3⟩)⟩
theorem run_app_nil {P : Program} (w : World) (t ty e : TypeId) (i : TypeInfo) (z : Value) (size bytes : Nat) (ht : P.underlying t = some (.slice e)) (hi : P.info? e = some i) (hz : i.zero = some z)
    (hsize : i.size = size) (hby : i.bytes = bytes) (hzs : z.cells.size = size) (hsz : 0 < size)
    (x : Value) (m : Nat) (news : List Value) (hx : w.ownsRow 0 e size x m news) (h1 : ∀ u ∈ news, u.oneCell' = true) (h63 : m ≤ maxLen) (hbytes : m * bytes ≤ 140737488355328) :
    ∃ v' w', (Builtin.append_ #[t, t] ty #[.slice none 0 0, x]).run P w = .ok v' w' ∧ w'.ownsRow 0 e size v' m news ∧ Fr [] w w' ∧ ∀ q, v'.ownBlock = some q → w.heap.size ≤ q := by
  have hn : w.ownsRow w.heap.size e size (.slice none 0 0) 0 [] := World.ownsRow_nil _ _ _ _
  have hxs := hx.1
  rcases hx.2 with ⟨rfl, rfl⟩ | ⟨g, cap, cur, rfl, _, hg, hnc, hcm, hcs, htake⟩
  · refine ⟨_, _, run_append_owned_none w w.heap.size t ty e i size ht hi _ 0 [] hn, hx, Fr.refl _ _, fun q e => by cases e⟩
  · obtain ⟨v', w', hr, h2, h3, _⟩ := run_append_own (P := P) w w.heap.size t ty e i z size bytes ht hi hz hsize hby hzs hsz (.slice none 0 0) 0 [] hn ⟨g, 0, none⟩ m cap news hxs (hx.cells (g := g) rfl) h1 (by simpa using h63) (by simpa using hbytes) (Nat.le_refl _)
    simp only [Nat.zero_add, List.nil_append] at h2
    refine ⟨v', w', hr, ownsRow_base0 h2, ⟨h3.os, h3.tape, h3.output, h3.size, fun k hk _ => h3.block k hk (by simp [Value.ownBlock])⟩, fun q hq => ?_⟩
    rcases h2.2 with ⟨rfl, _⟩ | ⟨g', cap', cur', rfl, hgb, _⟩
    · cases hq
    · simp [Value.ownBlock] at hq; omega
theorem wp_app_nil {P : Program} {w : World} {o : Oper} {a : Act} {K : Act → World → Prop} {Q : Exit → Act → World → Prop} (s x : Operand) (t : TypeId)
    (ho : o.op = .call { callee := .builtin .append, args := #[s, x], argTypes := #[t, t] })
    (e : TypeId) (z : Value) (size bytes : Nat) (ht : P.underlying t = some (.slice e)) (hinfo : (P.info? e).map (fun i => (i.zero, i.size, i.bytes)) = some (some z, size, bytes)) (hzs : z.cells.size = size) (hsz : 0 < size)
    (hs : a.eval s = .slice none 0 0) (v : Value) (m : Nat) (news : List Value) (hv : a.eval x = v) (hx : w.ownsRow 0 e size v m news) (h1 : ∀ u ∈ news, u.oneCell' = true) (h63 : m ≤ maxLen) (hbytes : m * bytes ≤ 140737488355328)
    (h : ∀ v' w', w'.ownsRow 0 e size v' m news → Fr [] w w' → (∀ q, v'.ownBlock = some q → w.heap.size ≤ q) → K (a.put o.dst v') w') : o.wp P a w K Q := by
  obtain ⟨i0, hi, hz0, hz1, hz2⟩ := info_parts hinfo
  obtain ⟨v', w', hr, h2, h3, h4⟩ := run_app_nil (P := P) w t o.type e i0 z size bytes ht hi hz0 hz1 hz2 hzs hsz v m news hx h1 h63 hbytes
  unfold Oper.wp execOp
  simp only [ho, resolve, invoke, builtin, Sem.run_bind, Sem.run_pure, Result.andThen_ok, List.map_toArray, List.map_cons, List.map_nil, hs, hv, hr]
  exact h v' w' h2 h3 h4
theorem step_app_nil {P : Program} {w : World} {ops : Array Oper} {o : Oper} {a : Act} {K : Act → World → Prop} {Q : Exit → Act → World → Prop} {E : Prop} (hgd : o.guard = none) (s x : Operand) (t : TypeId)
    (ho : o.op = .call { callee := .builtin .append, args := #[s, x], argTypes := #[t, t] })
    (e : TypeId) (z : Value) (size bytes : Nat) (ht : P.underlying t = some (.slice e)) (hinfo : (P.info? e).map (fun i => (i.zero, i.size, i.bytes)) = some (some z, size, bytes)) (hzs : z.cells.size = size) (hsz : 0 < size)
    (hs : a.eval s = .slice none 0 0) (v : Value) (m : Nat) (news : List Value) (hv : a.eval x = v) (hx : w.ownsRow 0 e size v m news) (h1 : ∀ u ∈ news, u.oneCell' = true) (h63 : m ≤ maxLen) (hbytes : m * bytes ≤ 140737488355328)
    (h : ∀ v' w', w'.ownsRow 0 e size v' m news → Fr [] w w' → (∀ q, v'.ownBlock = some q → w.heap.size ≤ q) → K (a.put o.dst v') w') :
    if Region.wanted o (yielded ops a.tmps) = true then Oper.wp P o a w K Q else E := by
  rw [if_pos (by simp [Region.wanted, hgd])]
  exact wp_app_nil s x t ho e z size bytes ht hinfo hzs hsz hs v m news hv hx h1 h63 hbytes h
theorem wpList_app_nil {P : Program} {w : World} {ops : Array Oper} {rest : List Oper} {o : Oper} {a : Act} {Q : Exit → Act → World → Prop} (hgd : o.guard = none) (s x : Operand) (t : TypeId)
    (ho : o.op = .call { callee := .builtin .append, args := #[s, x], argTypes := #[t, t] })
    (e : TypeId) (z : Value) (size bytes : Nat) (ht : P.underlying t = some (.slice e)) (hinfo : (P.info? e).map (fun i => (i.zero, i.size, i.bytes)) = some (some z, size, bytes)) (hzs : z.cells.size = size) (hsz : 0 < size)
    (hs : a.eval s = .slice none 0 0) (v : Value) (m : Nat) (news : List Value) (hv : a.eval x = v) (hx : w.ownsRow 0 e size v m news) (h1 : ∀ u ∈ news, u.oneCell' = true) (h63 : m ≤ maxLen) (hbytes : m * bytes ≤ 140737488355328)
    (h : ∀ v' w', w'.ownsRow 0 e size v' m news → Fr [] w w' → (∀ q, v'.ownBlock = some q → w.heap.size ≤ q) → wpList P ops Q rest (a.put o.dst v') w') : wpList P ops Q (o :: rest) a w := by
  exact wpList_plain hgd fun K hK => wp_app_nil s x t ho e z size bytes ht hinfo hzs hsz hs v m news hv hx h1 h63 hbytes fun v' w' h2 h3 h4 => hK _ _ (h v' w' h2 h3 h4)
end Go.Proofs.Ytbegdgnhpklceaa

/- 'append' of one element of several cells; 'append' at a step of a region that draws its order; onto an empty slice that was just made. -/
namespace Go.Proofs.Ytbegdgnhpklceaa
open Go.RowKit

theorem wp_app {P : Program} {w : World} {o : Oper} {a : Act} {K : Act → World → Prop} {Q : Exit → Act → World → Prop} (s x : Operand) (t : TypeId)
    (ho : o.op = .call { callee := .builtin .append, args := #[s, x], argTypes := #[t, t] })
    (e : TypeId) (z : Value) (size bytes : Nat) (ht : P.underlying t = some (.slice e)) (hinfo : (P.info? e).map (fun i => (i.zero, i.size, i.bytes)) = some (some z, size, bytes)) (hzs : z.cells.size = size) (hsz : 0 < size)
    (v : Value) (n : Nat) (xs : List Value) (hs : a.eval s = v) (hown : w.ownsRow 0 e size v n xs)
    (b : Nat) (et : TypeId) (news : List Value) (hx : a.eval x = .slice (some ⟨b, 0, none⟩) 1 1) (hb : Blk w b et news) (hl : news.length = size) (h1 : ∀ u ∈ news, u.oneCell' = true)
    (hn : n + 1 ≤ 4294967296) (hby : bytes ≤ 1024)
    (h : ∀ g cap w', w'.ownsRow 0 e size (.slice (some ⟨g, 0, none⟩) (n + 1) cap) (n + 1) (xs ++ news) → w.grownBy w' v.ownBlock → (v.ownBlock = some g ∨ w.heap.size ≤ g) →
      K (a.put o.dst (.slice (some ⟨g, 0, none⟩) (n + 1) cap)) w') : o.wp P a w K Q := by
  obtain ⟨i0, hi, hz0, hz1, hz2⟩ := info_parts hinfo
  have hbb : (n + 1) * bytes ≤ 140737488355328 := by
    have : (n + 1) * bytes ≤ 4294967296 * 1024 := Nat.mul_le_mul hn hby
    omega
  obtain ⟨g, cap, w', hr, h2, h3, h4⟩ := run_app (P := P) w t o.type e i0 z size bytes ht hi hz0 hz1 hz2 hzs hsz v n xs hown ⟨b, 0, none⟩ 1 1 news (by rw [Nat.one_mul]; exact hl) (fun j u hj => by rw [Addr.add_lit, Nat.zero_add, hb.cell]; exact hj) h1 (by decide) (by unfold maxLen; omega) hbb
  unfold Oper.wp execOp
  simp only [ho, resolve, invoke, builtin, Sem.run_bind, Sem.run_pure, Result.andThen_ok, List.map_toArray, List.map_cons, List.map_nil, hs, hx, hr]
  exact h g cap w' h2 h3 h4

/-- 'append(s, x)': one element, which lies in a block of its own. -/
theorem wpList_appK {P : Program} {w : World} {ops : Array Oper} {rest : List Oper} {o : Oper} {a : Act} {Q : Exit → Act → World → Prop} (hgd : o.guard = none) (s x : Operand) (t : TypeId)
    (ho : o.op = .call { callee := .builtin .append, args := #[s, x], argTypes := #[t, t] })
    (e : TypeId) (z : Value) (size bytes : Nat) (ht : P.underlying t = some (.slice e)) (hinfo : (P.info? e).map (fun i => (i.zero, i.size, i.bytes)) = some (some z, size, bytes)) (hzs : z.cells.size = size) (hsz : 0 < size)
    (v : Value) (n : Nat) (xs : List Value) (hs : a.eval s = v) (hown : w.ownsRow 0 e size v n xs)
    (b : Nat) (et : TypeId) (news : List Value) (hx : a.eval x = .slice (some ⟨b, 0, none⟩) 1 1) (hb : Blk w b et news) (hl : news.length = size) (h1 : ∀ u ∈ news, u.oneCell' = true)
    (hn : n + 1 ≤ 4294967296) (hby : bytes ≤ 1024)
    (h : ∀ g cap w', w'.ownsRow 0 e size (.slice (some ⟨g, 0, none⟩) (n + 1) cap) (n + 1) (xs ++ news) → w.grownBy w' v.ownBlock → (v.ownBlock = some g ∨ w.heap.size ≤ g) →
      wpList P ops Q rest (a.put o.dst (.slice (some ⟨g, 0, none⟩) (n + 1) cap)) w') : wpList P ops Q (o :: rest) a w :=
  wpList_plain hgd fun _ hK => wp_app s x t ho e z size bytes ht hinfo hzs hsz v n xs hs hown b et news hx hb hl h1 hn hby fun g cap w' h2 h3 h4 => hK _ _ (h g cap w' h2 h3 h4)

theorem step_appK {P : Program} {w : World} {ops : Array Oper} {o : Oper} {a : Act} {K : Act → World → Prop} {Q : Exit → Act → World → Prop} {E : Prop} (hgd : o.guard = none) (s x : Operand) (t : TypeId)
    (ho : o.op = .call { callee := .builtin .append, args := #[s, x], argTypes := #[t, t] })
    (e : TypeId) (z : Value) (size bytes : Nat) (ht : P.underlying t = some (.slice e)) (hinfo : (P.info? e).map (fun i => (i.zero, i.size, i.bytes)) = some (some z, size, bytes)) (hzs : z.cells.size = size) (hsz : 0 < size)
    (v : Value) (n : Nat) (xs : List Value) (hs : a.eval s = v) (hown : w.ownsRow 0 e size v n xs)
    (b : Nat) (et : TypeId) (news : List Value) (hx : a.eval x = .slice (some ⟨b, 0, none⟩) 1 1) (hb : Blk w b et news) (hl : news.length = size) (h1 : ∀ u ∈ news, u.oneCell' = true)
    (hn : n + 1 ≤ 4294967296) (hby : bytes ≤ 1024)
    (h : ∀ g cap w', w'.ownsRow 0 e size (.slice (some ⟨g, 0, none⟩) (n + 1) cap) (n + 1) (xs ++ news) → w.grownBy w' v.ownBlock → (v.ownBlock = some g ∨ w.heap.size ≤ g) →
      K (a.put o.dst (.slice (some ⟨g, 0, none⟩) (n + 1) cap)) w') :
    if Region.wanted o (yielded ops a.tmps) = true then Oper.wp P o a w K Q else E := by
  rw [if_pos (by simp [Region.wanted, hgd])]
  exact wp_app s x t ho e z size bytes ht hinfo hzs hsz v n xs hs hown b et news hx hb hl h1 hn hby h

/-- 'append([]T{}, s...)'. -/
theorem run_app_mt {P : Program} (w : World) (t ty e : TypeId) (i : TypeInfo) (z : Value) (size bytes : Nat) (ht : P.underlying t = some (.slice e)) (hi : P.info? e = some i) (hz : i.zero = some z)
    (hsize : i.size = size) (hby : i.bytes = bytes) (hzs : z.cells.size = size) (hsz : 0 < size)
    (g : Nat) (hg : Blk w g e []) (x : Value) (m : Nat) (news : List Value) (hx : w.ownsRow 0 e size x m news) (h1 : ∀ u ∈ news, u.oneCell' = true) (h63 : m ≤ maxLen) (hbytes : m * bytes ≤ 140737488355328) :
    ∃ v' w', (Builtin.append_ #[t, t] ty #[.slice (some ⟨g, 0, none⟩) 0 0, x]).run P w = .ok v' w' ∧ w'.ownsRow 0 e size v' m news ∧ Fr [g] w w' ∧ ∀ q, v'.ownBlock = some q → q = g ∨ w.heap.size ≤ q := by
  have hn : w.ownsRow g e size (.slice (some ⟨g, 0, none⟩) 0 0) 0 [] := ⟨by simp, .inr ⟨g, 0, #[], rfl, Nat.le_refl _, hg, Nat.le_refl _, Nat.zero_le _, by simp, by simp⟩⟩
  have hxs := hx.1
  rcases hx.2 with ⟨rfl, rfl⟩ | ⟨gx, cap, cur, rfl, _, hgx, hnc, hcm, hcs, htake⟩
  · have hnil : news = [] := List.eq_nil_of_length_eq_zero (by simpa using hxs)
    subst hnil
    refine ⟨_, _, run_append_owned_none w g t ty e i size ht hi _ 0 [] hn, ?_, Fr.refl _ _, fun q e => ?_⟩
    · exact ⟨by simp, .inr ⟨g, 0, #[], rfl, Nat.zero_le _, hg, Nat.le_refl _, Nat.zero_le _, by simp, by simp⟩⟩
    · simp [Value.ownBlock] at e; exact .inl e.symm
  · obtain ⟨v', w', hr, h2, h3, _, h5⟩ := run_append_own_at (P := P) w g t ty e i z size bytes ht hi hz hsize hby hzs hsz (.slice (some ⟨g, 0, none⟩) 0 0) 0 [] hn ⟨gx, 0, none⟩ m cap news hxs (hx.cells (g := gx) rfl) h1 (by simpa using h63) (by simpa using hbytes) (Nat.le_of_lt hg.lt)
    simp only [Nat.zero_add, List.nil_append] at h2
    refine ⟨v', w', hr, ownsRow_base0 h2, ⟨h3.os, h3.tape, h3.output, h3.size, fun k hk hn => h3.block k hk (fun e => hn (by simp [Value.ownBlock] at e; simp [e]))⟩, fun q hq => ?_⟩
    rcases h5 with h5 | h5
    · rw [hq] at h5; simp [Value.ownBlock] at h5; exact .inl h5
    · rw [hq] at h5; simp at h5; exact .inr (by omega)
theorem wp_app_mt {P : Program} {w : World} {o : Oper} {a : Act} {K : Act → World → Prop} {Q : Exit → Act → World → Prop} (s x : Operand) (t : TypeId)
    (ho : o.op = .call { callee := .builtin .append, args := #[s, x], argTypes := #[t, t] })
    (e : TypeId) (z : Value) (size bytes : Nat) (ht : P.underlying t = some (.slice e)) (hinfo : (P.info? e).map (fun i => (i.zero, i.size, i.bytes)) = some (some z, size, bytes)) (hzs : z.cells.size = size) (hsz : 0 < size)
    (g : Nat) (hs : a.eval s = .slice (some ⟨g, 0, none⟩) 0 0) (hg : Blk w g e []) (v : Value) (m : Nat) (news : List Value) (hv : a.eval x = v) (hx : w.ownsRow 0 e size v m news) (h1 : ∀ u ∈ news, u.oneCell' = true) (h63 : m ≤ maxLen) (hbytes : m * bytes ≤ 140737488355328)
    (h : ∀ v' w', w'.ownsRow 0 e size v' m news → Fr [g] w w' → (∀ q, v'.ownBlock = some q → q = g ∨ w.heap.size ≤ q) → K (a.put o.dst v') w') : o.wp P a w K Q := by
  obtain ⟨i0, hi, hz0, hz1, hz2⟩ := info_parts hinfo
  obtain ⟨v', w', hr, h2, h3, h4⟩ := run_app_mt (P := P) w t o.type e i0 z size bytes ht hi hz0 hz1 hz2 hzs hsz g hg v m news hx h1 h63 hbytes
  unfold Oper.wp execOp
  simp only [ho, resolve, invoke, builtin, Sem.run_bind, Sem.run_pure, Result.andThen_ok, List.map_toArray, List.map_cons, List.map_nil, hs, hv, hr]
  exact h v' w' h2 h3 h4
theorem step_app_mt {P : Program} {w : World} {ops : Array Oper} {o : Oper} {a : Act} {K : Act → World → Prop} {Q : Exit → Act → World → Prop} {E : Prop} (hgd : o.guard = none) (s x : Operand) (t : TypeId)
    (ho : o.op = .call { callee := .builtin .append, args := #[s, x], argTypes := #[t, t] })
    (e : TypeId) (z : Value) (size bytes : Nat) (ht : P.underlying t = some (.slice e)) (hinfo : (P.info? e).map (fun i => (i.zero, i.size, i.bytes)) = some (some z, size, bytes)) (hzs : z.cells.size = size) (hsz : 0 < size)
    (g : Nat) (hs : a.eval s = .slice (some ⟨g, 0, none⟩) 0 0) (hg : Blk w g e []) (v : Value) (m : Nat) (news : List Value) (hv : a.eval x = v) (hx : w.ownsRow 0 e size v m news) (h1 : ∀ u ∈ news, u.oneCell' = true) (h63 : m ≤ maxLen) (hbytes : m * bytes ≤ 140737488355328)
    (h : ∀ v' w', w'.ownsRow 0 e size v' m news → Fr [g] w w' → (∀ q, v'.ownBlock = some q → q = g ∨ w.heap.size ≤ q) → K (a.put o.dst v') w') :
    if Region.wanted o (yielded ops a.tmps) = true then Oper.wp P o a w K Q else E := by
  rw [if_pos (by simp [Region.wanted, hgd])]
  exact wp_app_mt s x t ho e z size bytes ht hinfo hzs hsz g hs hg v m news hv hx h1 h63 hbytes h
end Go.Proofs.Ytbegdgnhpklceaa

/- A store in memory. -/
namespace Go.Proofs.Ytbegdgnhpklceaa
open Go.RowKit
set_option maxRecDepth 10000

def lvC (e : Lv) : List Value := [.int .i64 e.slot, .int .u64 e.seq, .int .u64 e.u, .int .u64 e.v, .int .i64 e.wt, .int .i64 e.t, .int .i64 e.x]
abbrev lvA (e : Lv) : Value := .agg #[.int .i64 e.slot, .int .u64 e.seq, .int .u64 e.u, .int .u64 e.v, .int .i64 e.wt, .int .i64 e.t, .int .i64 e.x]
def lvZero : Value := .agg #[.int .i64 0, .int .u64 0, .int .u64 0, .int .u64 0, .int .i64 0, .int .i64 0, .int .i64 0]
theorem Try.info34 : (Try.prog.info? 34).map (fun i => (i.zero, i.size, i.bytes)) = some (some lvZero, 7, 56) := by kernel_rfl
def rowV (l : List Lv) : List Value := l.flatMap lvC
theorem rowV_snoc (l : List Lv) (e : Lv) : rowV (l ++ [e]) = rowV l ++ lvC e := by simp [rowV]
theorem rowV_app (l m : List Lv) : rowV (l ++ m) = rowV l ++ rowV m := by simp [rowV]
theorem rowV_len (l : List Lv) : (rowV l).length = l.length * 7 := by
  induction l with
  | nil => rfl
  | cons a r ih => simp only [rowV, List.flatMap_cons, List.length_append, List.length_cons] at *; rw [ih]; simp [lvC]; omega
theorem rowV_at : ∀ {l : List Lv} {i : Nat} (hi : i < l.length) (j : Nat), j < 7 → (rowV l)[i * 7 + j]? = (lvC l[i])[j]?
  | e :: l, 0, _, j, hj => by
    show (lvC e ++ rowV l)[0 * 7 + j]? = (lvC e)[j]?
    rw [List.getElem?_append_left (by simp [lvC]; omega)]; congr 1; omega
  | e :: l, i + 1, hi, j, hj => by
    show (lvC e ++ rowV l)[(i + 1) * 7 + j]? = _
    rw [List.getElem?_append_right (by simp [lvC]; omega)]
    have := rowV_at (l := l) (i := i) (by simpa using hi) j hj
    rw [show (i + 1) * 7 + j - (lvC e).length = i * 7 + j by simp [lvC]; omega, this]
    simp
theorem rowV_one (l : List Lv) : ∀ u ∈ rowV l, u.oneCell' = true := by
  intro u hu
  obtain ⟨e, _, he⟩ := List.mem_flatMap.1 hu
  simp [lvC] at he
  rcases he with rfl | rfl | rfl | rfl | rfl | rfl | rfl <;> rfl

theorem ownsRow_ltS {w : World} {base : Nat} {e : TypeId} {size : Nat} {v : Value} {n : Nat} {xs : List Value} (h : w.ownsRow base e size v n xs) {q : Nat} (hq : v.ownBlock = some q) : q < w.heap.size := by
  rcases h.2 with ⟨rfl, _⟩ | ⟨g, cap, cur, rfl, _, hh, _⟩
  · cases hq
  · simp [Value.ownBlock] at hq; subst hq; exact (Array.getElem?_eq_some_iff.1 hh).1

/-- A slice reads the edges l. -/
def RowV (w : World) (v : Value) (l : List Lv) : Prop := w.ownsRow 0 34 7 v l.length (rowV l)
section
variable {w w' : World} {v : Value} {l : List Lv}
theorem RowV.fr {S : List Nat} (h : RowV w v l) (hf : Fr S w w') (hs : ∀ q, v.ownBlock = some q → q ∉ S) : RowV w' v l :=
  ownsRow_same h (fun q hq => hf.keep q (ownsRow_ltS h hq) (hs q hq))
theorem RowV.fr0 (h : RowV w v l) (hf : Fr [] w w') : RowV w' v l := h.fr hf (by simp)
theorem RowV.slice (h : RowV w v l) : ∃ a cap, v = .slice a l.length cap := ownsRow_slice h
theorem RowV.nil (w : World) : RowV w (.slice none 0 0) [] := ⟨rfl, .inl ⟨rfl, rfl⟩⟩
theorem RowV.lt (h : RowV w v l) {q : Nat} (hq : v.ownBlock = some q) : q < w.heap.size := ownsRow_ltS h hq
/-- The cells of one edge in a row. -/
def LvAt (w : World) (b o : Nat) (e : Lv) : Prop :=
  w.cell? ⟨b, o, none⟩ = some (.int .i64 e.slot) ∧ w.cell? ⟨b, o + 1, none⟩ = some (.int .u64 e.seq) ∧ w.cell? ⟨b, o + 2, none⟩ = some (.int .u64 e.u) ∧ w.cell? ⟨b, o + 3, none⟩ = some (.int .u64 e.v) ∧
    w.cell? ⟨b, o + 4, none⟩ = some (.int .i64 e.wt) ∧ w.cell? ⟨b, o + 5, none⟩ = some (.int .i64 e.t) ∧ w.cell? ⟨b, o + 6, none⟩ = some (.int .i64 e.x)
theorem RowV.at (h : RowV w v l) {i : Nat} (hi : i < l.length) : ∃ b cap, v = .slice (some ⟨b, 0, none⟩) l.length cap ∧ l.length ≤ cap ∧ b < w.heap.size ∧ (∀ j, w.frozen? ⟨b, j, none⟩ = false) ∧ LvAt w b (i * 7) l[i] := by
  obtain ⟨h1, h2⟩ := h
  rcases h2 with ⟨rfl, h0⟩ | ⟨g, cap, cur, rfl, _, hh, hn, hm, hsz, hxs⟩
  · omega
  · have key : ∀ j, j < 7 → w.cell? ⟨g, i * 7 + j, none⟩ = (lvC l[i])[j]? := by
      intro j hj
      rw [← rowV_at hi j hj, ← hxs, List.getElem?_take, if_pos (by omega)]
      simp [World.cell?, hh]
    exact ⟨g, cap, rfl, hn, (Array.getElem?_eq_some_iff.1 hh).1, fun j => by simp [World.frozen?, hh], key 0 (by omega), key 1 (by omega), key 2 (by omega), key 3 (by omega), key 4 (by omega), key 5 (by omega), key 6 (by omega)⟩
theorem LvAt.fr {S : List Nat} {b o : Nat} {e : Lv} (h : LvAt w b o e) (hf : Fr S w w') (hb : b ∉ S) : LvAt w' b o e := by
  obtain ⟨h0, h1, h2, h3, h4, h5, h6⟩ := h
  exact ⟨hf.cell h0 hb, hf.cell h1 hb, hf.cell h2 hb, hf.cell h3 hb, hf.cell h4 hb, hf.cell h5 hb, hf.cell h6 hb⟩
theorem Blk.lvAt {b : Nat} {t : TypeId} {e : Lv} (h : Blk w b t (lvC e)) : LvAt w b 0 e := ⟨h.cell 0, h.cell 1, h.cell 2, h.cell 3, h.cell 4, h.cell 5, h.cell 6⟩
end

/-- Seven cells are stored one after the other. -/
def put7 (w : World) (b o : Nat) (e : Lv) : World :=
  ((((((w.setCell ⟨b, o, none⟩ (.int .i64 e.slot)).setCell ⟨b, o + 1, none⟩ (.int .u64 e.seq)).setCell ⟨b, o + 2, none⟩ (.int .u64 e.u)).setCell ⟨b, o + 3, none⟩ (.int .u64 e.v)).setCell ⟨b, o + 4, none⟩ (.int .i64 e.wt)).setCell ⟨b, o + 5, none⟩ (.int .i64 e.t)).setCell ⟨b, o + 6, none⟩ (.int .i64 e.x)
theorem set7_row : ∀ {l : List Lv} {i : Nat} (_ : i < l.length) (e : Lv),
    ((((((((rowV l).set (i * 7) (.int .i64 e.slot)).set (i * 7 + 1) (.int .u64 e.seq)).set (i * 7 + 2) (.int .u64 e.u)).set (i * 7 + 3) (.int .u64 e.v)).set (i * 7 + 4) (.int .i64 e.wt)).set (i * 7 + 5) (.int .i64 e.t)).set (i * 7 + 6) (.int .i64 e.x)) = rowV (l.set i e)
  | a :: l, 0, _, e => by simp [rowV, lvC, List.set_cons_succ]
  | a :: l, i + 1, hi, e => by
    have ih := set7_row (l := l) (i := i) (by simpa using hi) e
    have hs : ∀ (xs : List Value) (k : Nat) (u : Value), (lvC a ++ xs).set (k + 7) u = lvC a ++ xs.set k u := fun xs k u => by
      rw [List.set_append_right _ _ (by simp [lvC])]; simp [lvC]
    show ((((((((lvC a ++ rowV l).set _ _).set _ _).set _ _).set _ _).set _ _).set _ _).set _ _) = lvC a ++ rowV (l.set i e)
    rw [← ih, show (i + 1) * 7 = i * 7 + 7 by omega, hs, show i * 7 + 7 + 1 = i * 7 + 1 + 7 by omega, hs, show i * 7 + 7 + 2 = i * 7 + 2 + 7 by omega, hs, show i * 7 + 7 + 3 = i * 7 + 3 + 7 by omega, hs,
      show i * 7 + 7 + 4 = i * 7 + 4 + 7 by omega, hs, show i * 7 + 7 + 5 = i * 7 + 5 + 7 by omega, hs, show i * 7 + 7 + 6 = i * 7 + 6 + 7 by omega, hs]
theorem ownsRow_setK {w : World} {e : TypeId} {size g n cap i : Nat} {xs : List Value} (h : w.ownsRow 0 e size (.slice (some ⟨g, 0, none⟩) n cap) n xs) (u : Value) :
    (w.setCell ⟨g, i, none⟩ u).ownsRow 0 e size (.slice (some ⟨g, 0, none⟩) n cap) n (xs.set i u) := by
  obtain ⟨h1, h2⟩ := h
  refine ⟨by simpa using h1, ?_⟩
  rcases h2 with ⟨h2, _⟩ | ⟨g', cap', cur, e1, _, hh, hn, hm, hsz, hxs⟩
  · cases h2
  · simp only [Value.slice.injEq, Option.some.injEq, Addr.mk.injEq, and_true, true_and] at e1
    obtain ⟨rfl, rfl⟩ := e1
    refine .inr ⟨g, cap, cur.setIfInBounds i u, rfl, Nat.zero_le _, ?_, hn, hm, by simpa using hsz, ?_⟩
    · simp only [World.setCell, Array.getElem?_modify]
      simp [hh]
    · rw [← hxs, Array.toList_setIfInBounds, List.take_set]
theorem RowV.set {w : World} {g cap : Nat} {l : List Lv} (h : RowV w (.slice (some ⟨g, 0, none⟩) l.length cap) l) {i : Nat} (hi : i < l.length) (e : Lv) : RowV (put7 w g (i * 7) e) (.slice (some ⟨g, 0, none⟩) l.length cap) (l.set i e) := by
  unfold RowV at *
  rw [List.length_set, ← set7_row hi]
  exact ownsRow_setK (ownsRow_setK (ownsRow_setK (ownsRow_setK (ownsRow_setK (ownsRow_setK (ownsRow_setK h _) _) _) _) _) _) _
theorem Fr.put7 {S : List Nat} {w w' : World} (h : Fr S w w') (b o : Nat) (e : Lv) (hb : b ∈ S ∨ w.heap.size ≤ b) : Fr S w (put7 w' b o e) :=
  ((((((h.setCell _ _ hb).setCell _ _ hb).setCell _ _ hb).setCell _ _ hb).setCell _ _ hb).setCell _ _ hb).setCell _ _ hb

/-- A slice reads the numbers p. -/
def RowI (w : World) (v : Value) (p : List Nat) : Prop := w.ownsRow 0 3 1 v p.length (encN p)
section
variable {w w' : World} {v : Value} {p : List Nat}
theorem RowI.fr {S : List Nat} (h : RowI w v p) (hf : Fr S w w') (hs : ∀ q, v.ownBlock = some q → q ∉ S) : RowI w' v p :=
  ownsRow_same h (fun q hq => hf.keep q (ownsRow_ltS h hq) (hs q hq))
theorem RowI.fr0 (h : RowI w v p) (hf : Fr [] w w') : RowI w' v p := h.fr hf (by simp)
theorem RowI.slice (h : RowI w v p) : ∃ a cap, v = .slice a p.length cap := ownsRow_slice h
theorem RowI.nil (w : World) : RowI w (.slice none 0 0) [] := ⟨rfl, .inl ⟨rfl, rfl⟩⟩
theorem RowI.lt (h : RowI w v p) {q : Nat} (hq : v.ownBlock = some q) : q < w.heap.size := ownsRow_ltS h hq
theorem RowI.at (h : RowI w v p) {i : Nat} (hi : i < p.length) : ∃ b cap, v = .slice (some ⟨b, 0, none⟩) p.length cap ∧ b < w.heap.size ∧ w.cell? ⟨b, i, none⟩ = some (.int .i64 (p[i]'hi)) := by
  obtain ⟨b, cap, e, _, h2, h3, _⟩ := ownsRow_at h hi
  exact ⟨b, cap, e, h2, h3.trans (by simp [encN, hi])⟩
end

def okS : Value → Bool
  | .slice _ _ _ => true
  | _ => false
abbrev nilS : Value := .slice none 0 0
def updF (f : Nat → List Nat) (a : Nat) (l : List Nat) : Nat → List Nat := fun x => if x = a then l else f x
theorem updF_same (f : Nat → List Nat) (a : Nat) (l : List Nat) : updF f a l a = l := by simp [updF]
theorem updF_other {f : Nat → List Nat} {a x : Nat} {l : List Nat} (h : x ≠ a) : updF f a l x = f x := by simp [updF, h]
abbrev U64 : Nat := 18446744073709551616
/-- The map from vertices to the slots of their edges, each list a row of its own; the rows lie among the blocks lb. -/
structure IncI (w : World) (mb : Nat) (iv : Int → Option Value) (f : Nat → List Nat) (n : Nat) (lb : List Nat) : Prop where
  im : IMap Try.prog 30 .u64 okS w mb iv n
  nm : mb ∉ lb
  lt : ∀ b ∈ lb, b < w.heap.size
  row : ∀ id : Nat, id < U64 → ((iv id).isSome = true ↔ f id ≠ []) ∧ RowI w ((iv id).getD nilS) (f id) ∧ ∀ q, ((iv id).getD nilS).ownBlock = some q → q ∈ lb
  inj : ∀ (id id' q : Nat), id < U64 → id' < U64 → ((iv id).getD nilS).ownBlock = some q → ((iv id').getD nilS).ownBlock = some q → id = id'
def IncAt (w : World) (mb : Nat) (f : Nat → List Nat) (n : Nat) (lb : List Nat) : Prop := ∃ iv, IncI w mb iv f n lb
theorem IncI.fr {w w' : World} {mb n : Nat} {iv : Int → Option Value} {f : Nat → List Nat} {lb S : List Nat} (h : IncI w mb iv f n lb) (hf : Fr S w w') (h1 : mb ∉ S) (h2 : ∀ b ∈ lb, b ∉ S) : IncI w' mb iv f n lb :=
  ⟨h.im.same (hf.keep mb h.im.lt h1), h.nm, fun b hb => Nat.lt_of_lt_of_le (h.lt b hb) hf.size, fun id hid => ⟨(h.row id hid).1, (h.row id hid).2.1.fr hf (fun q hq => h2 q ((h.row id hid).2.2 q hq)), (h.row id hid).2.2⟩, h.inj⟩
theorem IncI.set {w w1 w2 : World} {mb n n2 : Nat} {iv : Int → Option Value} {f : Nat → List Nat} {lb : List Nat} (h : IncI w mb iv f n lb) {id : Nat} (hid : id < U64) {v1 : Value} {l1 : List Nat} (h1 : RowI w1 v1 l1) (hne : l1 ≠ [])
    (hF : Fr ((iv id).getD nilS).ownBlock.toList w w1) (hq : ∀ q, v1.ownBlock = some q → ((iv id).getD nilS).ownBlock = some q ∨ w.heap.size ≤ q)
    (hI : IMap Try.prog 30 .u64 okS w2 mb (updM iv id (some v1)) n2) (hF2 : Fr [mb] w1 w2) : IncI w2 mb (updM iv id (some v1)) (updF f id l1) n2 (lb ++ v1.ownBlock.toList) := by
  have hml := h.im.lt
  have hs1 := hF.size
  have hs2 := hF2.size
  have hqm : ∀ q, v1.ownBlock = some q → q ≠ mb := fun q hqq e => by
    subst e
    rcases hq q hqq with e | e
    · exact h.nm ((h.row id hid).2.2 q e)
    · omega
  have hother : ∀ (x : Nat), x < U64 → x ≠ id → ∀ q, ((iv x).getD nilS).ownBlock = some q → q ∉ ((iv id).getD nilS).ownBlock.toList ∧ q ≠ mb := fun x hx hxn q hqq =>
    ⟨fun hm => hxn (h.inj x id q hx hid hqq (by simpa using hm)), fun e => h.nm (e ▸ (h.row x hx).2.2 q hqq)⟩
  refine ⟨hI, fun hm => ?_, fun b hb => ?_, fun x hx => ?_, fun x y q hx hy hxq hyq => ?_⟩
  · rcases List.mem_append.1 hm with hm | hm
    · exact h.nm hm
    · exact hqm mb (by simpa using hm) rfl
  · rcases List.mem_append.1 hb with hb | hb
    · have := h.lt b hb; omega
    · have := h1.lt (by simpa using hb); omega
  · by_cases e : x = id
    · subst e
      rw [updM_same, updF_same]
      refine ⟨by simp [hne], h1.fr hF2 (fun q hqq hm => ?_), fun q hqq => List.mem_append.2 (.inr (by simpa using hqq))⟩
      exact hqm q hqq (by simpa using hm)
    · rw [updM_other (by omega), updF_other e]
      obtain ⟨a1, a2, a3⟩ := h.row x hx
      exact ⟨a1, (a2.fr hF (fun q hqq => (hother x hx e q hqq).1)).fr hF2 (fun q hqq hm => (hother x hx e q hqq).2 (by simpa using hm)), fun q hqq => List.mem_append.2 (.inl (a3 q hqq))⟩
  · by_cases ex : x = id
    · by_cases ey : y = id
      · rw [ex, ey]
      · subst ex
        rw [updM_same] at hxq
        rw [updM_other (by omega)] at hyq
        rcases hq q hxq with e | e
        · exact (h.inj y x q hy hx hyq e).symm
        · have := h.lt q ((h.row y hy).2.2 q hyq); omega
    · rw [updM_other (by omega)] at hxq
      by_cases ey : y = id
      · subst ey
        rw [updM_same] at hyq
        rcases hq q hyq with e | e
        · exact h.inj x y q hx hy hxq e
        · have := h.lt q ((h.row x hx).2.2 q hxq); omega
      · rw [updM_other (by omega)] at hyq
        exact h.inj x y q hx hy hxq hyq
theorem IncI.del {w w1 w2 : World} {mb n n2 : Nat} {iv : Int → Option Value} {f : Nat → List Nat} {lb : List Nat} (h : IncI w mb iv f n lb) {id : Nat} (hid : id < U64)
    (hF : Fr ((iv id).getD nilS).ownBlock.toList w w1) (hI : IMap Try.prog 30 .u64 okS w2 mb (updM iv id none) n2) (hF2 : Fr [mb] w1 w2) : IncI w2 mb (updM iv id none) (updF f id []) n2 lb := by
  have hs1 := hF.size
  have hs2 := hF2.size
  have hother : ∀ (x : Nat), x < U64 → x ≠ id → ∀ q, ((iv x).getD nilS).ownBlock = some q → q ∉ ((iv id).getD nilS).ownBlock.toList ∧ q ≠ mb := fun x hx hxn q hqq =>
    ⟨fun hm => hxn (h.inj x id q hx hid hqq (by simpa using hm)), fun e => h.nm (e ▸ (h.row x hx).2.2 q hqq)⟩
  refine ⟨hI, h.nm, fun b hb => ?_, fun x hx => ?_, fun x y q hx hy hxq hyq => ?_⟩
  · have := h.lt b hb; omega
  · by_cases e : x = id
    · subst e
      rw [updM_same, updF_same]
      exact ⟨by simp, RowI.nil _, fun q hqq => by cases hqq⟩
    · rw [updM_other (by omega), updF_other e]
      obtain ⟨a1, a2, a3⟩ := h.row x hx
      exact ⟨a1, (a2.fr hF (fun q hqq => (hother x hx e q hqq).1)).fr hF2 (fun q hqq hm => (hother x hx e q hqq).2 (by simpa using hm)), a3⟩
  · by_cases ex : x = id
    · subst ex; rw [updM_same] at hxq; cases hxq
    · rw [updM_other (by omega)] at hxq
      by_cases ey : y = id
      · subst ey; rw [updM_same] at hyq; cases hyq
      · rw [updM_other (by omega)] at hyq
        exact h.inj x y q hx hy hxq hyq
theorem IncAt.fr {w w' : World} {mb n : Nat} {f : Nat → List Nat} {lb S : List Nat} (h : IncAt w mb f n lb) (hf : Fr S w w') (h1 : mb ∉ S) (h2 : ∀ b ∈ lb, b ∉ S) : IncAt w' mb f n lb := by
  obtain ⟨iv, h⟩ := h
  exact ⟨iv, h.fr hf h1 h2⟩
theorem wf_u64 {id : Nat} (h : id < U64) : (Lit.int .u64 (id : Int)).wf = true := by
  show (decide ((0 : Int) ≤ id) && decide ((id : Int) ≤ 18446744073709551615)) = true
  have h : id < 18446744073709551616 := h
  simp; omega
theorem u64_of_wf {a : Int} (h : (Lit.int .u64 a).wf = true) : ∃ id : Nat, a = id ∧ id < U64 := by
  have h : (decide ((0 : Int) ≤ a) && decide (a ≤ 18446744073709551615)) = true := h
  simp only [Bool.and_eq_true, decide_eq_true_eq] at h
  exact ⟨a.toNat, by omega, show a.toNat < 18446744073709551616 by omega⟩

/-- The blocks of a store, each of one kind. -/
structure Cls (c : Nat → Nat) (ps mb : Nat) (vl : Value) (la lt lb : List Nat) : Prop where
  p : c ps = 0
  m : c mb = 1
  a : ∀ b ∈ la, c b = 2
  t : ∀ b ∈ lt, c b = 3
  l : ∀ q, vl.ownBlock = some q → c q = 4
  b : ∀ b ∈ lb, c b = 5

structure StB (w : World) (ps pa pt mb n : Nat) (vl : Value) (s : Sm) (la lt lb : List Nat) (c : Nat → Nat) : Prop where
  hd : Blk w ps 63 [.int .i64 s.V, .int .i64 s.E, .int .u64 s.last, ptr pa, ptr pt, vl, .map (some mb)]
  ar : ArenaAt w pa s.A la
  tb : TabM w pt s.M lt
  lv : RowV w vl ((List.range n).map (liveAt s.L))
  inc : IncAt w mb (incL s.L) s.M.L.length lb
  sn : ∀ e ∈ s.L, e.slot < n
  nE : n ≤ s.E
  ok : s.Ok
  cls : Cls c ps mb vl la lt lb

def stK (ps mb : Nat) (vl : Value) (la lt lb : List Nat) : List Nat := ps :: mb :: (la ++ lt ++ vl.ownBlock.toList ++ lb)
def StoreAt (w : World) (ps : Nat) (s : Sm) (K : List Nat) : Prop := ∃ pa pt mb n vl la lt lb c, StB w ps pa pt mb n vl s la lt lb c ∧ K = stK ps mb vl la lt lb
theorem IncAt.ltm {w : World} {mb n : Nat} {f : Nat → List Nat} {lb : List Nat} (h : IncAt w mb f n lb) : mb < w.heap.size := by
  obtain ⟨iv, h⟩ := h; exact h.im.lt
theorem IncAt.ltb {w : World} {mb n : Nat} {f : Nat → List Nat} {lb : List Nat} (h : IncAt w mb f n lb) : ∀ b ∈ lb, b < w.heap.size := by
  obtain ⟨iv, h⟩ := h; exact h.lt
section
variable {w w' : World} {ps pa pt mb n : Nat} {vl : Value} {s : Sm} {la lT lb K S : List Nat} {c : Nat → Nat}
theorem StB.fr (h : StB w ps pa pt mb n vl s la lT lb c) (hf : Fr S w w') (hd : ∀ q ∈ stK ps mb vl la lT lb, q ∉ S) : StB w' ps pa pt mb n vl s la lT lb c :=
  ⟨hf.blk h.hd (hd _ (by simp [stK])), h.ar.fr hf (fun q hq => hd q (by simp [stK, hq])), h.tb.fr hf (fun q hq => hd q (by simp [stK, hq])), h.lv.fr hf (fun q hq => hd q (by simp [stK, hq])),
    h.inc.fr hf (hd _ (by simp [stK])) (fun q hq => hd q (by simp [stK, hq])), h.sn, h.nE, h.ok, h.cls⟩
theorem StB.lt (h : StB w ps pa pt mb n vl s la lT lb c) : ∀ q ∈ stK ps mb vl la lT lb, q < w.heap.size := by
  intro q hq
  simp only [stK, List.mem_cons, List.mem_append, Option.mem_toList] at hq
  rcases hq with rfl | rfl | ((hq | hq) | hq) | hq
  · exact h.hd.lt
  · exact h.inc.ltm
  · exact h.ar.lt q hq
  · exact h.tb.lt q hq
  · exact h.lv.lt hq
  · exact h.inc.ltb q hq
theorem StoreAt.fr (h : StoreAt w ps s K) (hf : Fr S w w') (hd : ∀ q ∈ K, q ∉ S) : StoreAt w' ps s K := by
  obtain ⟨pa, pt, mb, n, vl, la, lt, lb, c, h, rfl⟩ := h
  exact ⟨pa, pt, mb, n, vl, la, lt, lb, c, h.fr hf hd, rfl⟩
theorem StoreAt.fr0 (h : StoreAt w ps s K) (hf : Fr [] w w') : StoreAt w' ps s K := h.fr hf (by simp)
theorem StoreAt.lt (h : StoreAt w ps s K) : ∀ q ∈ K, q < w.heap.size := by
  obtain ⟨pa, pt, mb, n, vl, la, lt, lb, c, h, rfl⟩ := h; exact h.lt
theorem StoreAt.ok (h : StoreAt w ps s K) : s.Ok := by
  obtain ⟨pa, pt, mb, n, vl, la, lt, lb, c, h, rfl⟩ := h; exact h.ok
end
end Go.Proofs.Ytbegdgnhpklceaa

/- Sorted lists of numbers; List and Copy of a table over the plain model. -/
namespace Go.Proofs.Ytbegdgnhpklceaa
open Go.RowKit
set_option maxRecDepth 10000
set_option maxHeartbeats 800000

theorem sortN_perm (l : List Nat) : (sortN l).Perm l := List.mergeSort_perm _ _
theorem sortN_le (l : List Nat) : (sortN l).Pairwise (· ≤ ·) := by
  have := List.pairwise_mergeSort (le := fun x y : Nat => decide (x ≤ y)) (fun a b c h1 h2 => by simp at *; omega) (fun a b => by simp; omega) l
  exact this.imp (fun h => by simpa using h)
theorem sortN_lt {l : List Nat} (h : l.Nodup) : (sortN l).Pairwise (· < ·) := by
  have h1 := sortN_le l
  have h2 : (sortN l).Nodup := (sortN_perm l).nodup_iff.2 h
  exact (h1.and h2).imp (fun h => by omega)
theorem sortN_mem {l : List Nat} {x : Nat} : x ∈ sortN l ↔ x ∈ l := (sortN_perm l).mem_iff
theorem sortN_eq {l l' : List Nat} (h : l.Perm l') : sortN l = sortN l' :=
  ((sortN_perm l).trans (h.trans (sortN_perm l').symm)).eq_of_pairwise (le := fun x y => decide (x ≤ y)) (fun a b _ _ h1 h2 => by simp at *; omega) ((sortN_le l).imp (fun h => by simpa using h)) ((sortN_le l').imp (fun h => by simpa using h))

theorem tab_perm {M : Md} {T : Tb} (_hA : T.A = M.ar) (hok : M.Ok) (hiff : ∀ id i, (id, i) ∈ M.L ↔ (T.used i ∧ T.ids i = id)) : (M.L.map (·.1)).Perm ((usedL T.A).map T.ids) := by
  have h1 : M.L.Perm ((usedL T.A).map fun i => (T.ids i, i)) := by
    rw [List.perm_ext_iff_of_nodup ((List.pairwise_map.1 hok.ids).imp (fun h e => h (congrArg Prod.fst e))) (List.pairwise_map.2 ((nodup_usedL T.A).imp (fun h e => h (congrArg Prod.snd e))))]
    rintro ⟨id, i⟩
    rw [hiff, List.mem_map]
    constructor
    · rintro ⟨hu, rfl⟩; exact ⟨i, mem_usedL.2 hu, rfl⟩
    · rintro ⟨k, hk, e⟩
      simp only [Prod.mk.injEq] at e
      obtain ⟨rfl, rfl⟩ := e
      exact ⟨mem_usedL.1 hk, rfl⟩
  have := h1.map (·.1)
  rw [List.map_map] at this
  exact this
theorem tab_list {w : World} {pt : Nat} {M : Md} {l : List Nat} (h : TabM w pt M l) :
    Calls Try.prog 37 #[ptr pt] w fun e w' => ∃ v, e = .returned v ∧ w'.ownsRow 0 30 1 v M.L.length (encId (sortN (M.L.map (·.1)))) ∧ (∀ q, v.ownBlock = some q → w.heap.size ≤ q) ∧ Fr [] w w' := by
  obtain ⟨T, hT, hA, hok, hiff⟩ := h
  have hp := tab_perm hA hok hiff
  have hl : (usedL T.A).length = M.L.length := by simpa using hp.length_eq.symm
  refine (table_list hT).mono ?_
  rintro e w' ⟨v, rfl, h1, h2, h3⟩
  rw [hl, ← sortN_eq hp] at h1
  exact ⟨v, rfl, h1, h2, h3⟩
theorem tab_copy {w : World} {pt : Nat} {M : Md} {l : List Nat} (h : TabM w pt M l) :
    Calls Try.prog 48 #[ptr pt] w fun e w' => ∃ pt', e = .returned (ptr pt') ∧ ∃ l', TabM w' pt' M l' ∧ Fr [] w w' ∧ ∀ b ∈ l', w.heap.size ≤ b := by
  obtain ⟨T, hT, r⟩ := h
  refine (table_copy hT).mono ?_
  rintro e w' ⟨pt', rfl, l', h1, h2, h3⟩
  exact ⟨pt', rfl, l', ⟨T, h1, r⟩, h2, h3⟩
theorem Md.Ok.len {M : Md} (h : M.Ok) : M.L.length ≤ 65536 := by
  have h1 := h.cnt
  have h2 := h.ar.hb
  have h3 := h.ar.hs
  simp only [Md.ar] at h2 h3
  omega

end Go.Proofs.Ytbegdgnhpklceaa

/- store: valid, Len, Verts, Index, ID, IDs, Check. -/
namespace Go.Proofs.Ytbegdgnhpklceaa
open Go.RowKit
set_option maxRecDepth 10000
set_option maxHeartbeats 800000

@[go_sem] theorem neq_mapS (w : World) (r : Option Nat) : (binOp .neq 61 (.map r) (.map none)).run Try.prog w = .ok (.bool (!r.isNone)) w := run_neq_map_nil w _ _ _ r Try.underlying61
abbrev sptr (b : Nat) : Value := .pointer (some ⟨b, 0, none⟩)
section
variable {w w' : World} {ps : Nat} {s : Sm} {K : List Nat}
/-- The cells of the head. -/
theorem StoreAt.open (h : StoreAt w ps s K) : ∃ pa pt mb n vl la lT lb c, StB w ps pa pt mb n vl s la lT lb c ∧ K = stK ps mb vl la lT lb ∧
    w.cell? ⟨ps, 0, none⟩ = some (.int .i64 s.V) ∧ w.cell? ⟨ps, 1, none⟩ = some (.int .i64 s.E) ∧ w.cell? ⟨ps, 2, none⟩ = some (.int .u64 s.last) ∧ w.cell? ⟨ps, 3, none⟩ = some (ptr pa) ∧ w.cell? ⟨ps, 4, none⟩ = some (ptr pt) ∧ w.cell? ⟨ps, 5, none⟩ = some vl ∧ w.cell? ⟨ps, 6, none⟩ = some (.map (some mb)) := by
  obtain ⟨pa, pt, mb, n, vl, la, lT, lb, c, h, rfl⟩ := h
  exact ⟨pa, pt, mb, n, vl, la, lT, lb, c, h, rfl, h.hd.cell 0, h.hd.cell 1, h.hd.cell 2, h.hd.cell 3, h.hd.cell 4, h.hd.cell 5, h.hd.cell 6⟩
theorem st_valid (h : StoreAt w ps s K) : Calls Try.prog 29 #[sptr ps] w fun e w' => e = .returned (.bool true) ∧ w' = w := by
  obtain ⟨pa, pt, mb, n, vl, la, lT, lb, c, hB, rfl, c0, c1, c2, c3, c4, c5, c6⟩ := h.open
  clear h hB
  go_enter Try.func29, Try.ntmps29
  go_wp2
  go_ret
  exact ⟨rfl, rfl⟩
theorem st_len (h : StoreAt w ps s K) : Calls Try.prog 11 #[sptr ps] w fun e w' => e = .returned (.int .i64 s.L.length) ∧ w' = w := by
  have HV := Lib.hid (st_valid h)
  obtain ⟨pa, pt, mb, n, vl, la, lT, lb, c, hB, rfl, c0, c1, c2, c3, c4, c5, c6⟩ := h.open
  have hl := arena_len hB.ar
  rw [Sm.len_used hB.ok] at hl
  have HL := Lib.hid hl
  clear h hB hl
  go_enter Try.func11, Try.ntmps11
  go_wp2_with fail
  refine HV.out.mono ?_
  rintro _ w ⟨rfl, rfl⟩
  go_wp2_with fail
  refine HL.out.mono ?_
  rintro _ w1 ⟨rfl, rfl⟩
  go_wp2
  go_ret
  exact ⟨rfl, rfl⟩
theorem st_verts (h : StoreAt w ps s K) : Calls Try.prog 17 #[sptr ps] w fun e w' => e = .returned (.int .i64 s.M.L.length) ∧ w' = w := by
  have HV := Lib.hid (st_valid h)
  obtain ⟨pa, pt, mb, n, vl, la, lT, lb, c, hB, rfl, c0, c1, c2, c3, c4, c5, c6⟩ := h.open
  have HL := Lib.hid (tab_len hB.tb)
  clear h hB
  go_enter Try.func17, Try.ntmps17
  go_wp2_with fail
  refine HV.out.mono ?_
  rintro _ w ⟨rfl, rfl⟩
  go_wp2_with fail
  refine HL.out.mono ?_
  rintro _ w1 ⟨rfl, rfl⟩
  go_wp2
  go_ret
  exact ⟨rfl, rfl⟩
theorem st_index (h : StoreAt w ps s K) (id : Nat) (hid : id < 18446744073709551616) : Calls Try.prog 20 #[sptr ps, .int .u64 id] w fun e w' => e = .returned (.tuple #[.int .i64 ((s.M.find id).getD 0), .bool (s.M.find id).isSome]) ∧ Fr [] w w' := by
  have HV := Lib.hid (st_valid h)
  obtain ⟨pa, pt, mb, n, vl, la, lT, lb, c, hB, rfl, c0, c1, c2, c3, c4, c5, c6⟩ := h.open
  have HL := Lib.hid (tab_get id hid hB.tb)
  clear h hB
  generalize (s.M.find id).getD 0 = i at *
  generalize (s.M.find id).isSome = b at *
  go_enter Try.func20, Try.ntmps20
  go_wp2_with fail
  refine HV.out.mono ?_
  rintro _ w ⟨rfl, rfl⟩
  go_wp2_with fail
  refine HL.out.mono ?_
  rintro _ w1 ⟨rfl, _, hb⟩
  have HB := Lib.hid (Fr.of_below hb); clear hb
  go_wp2
  go_ret2
  exact ⟨rfl, HB.out⟩
theorem st_id (h : StoreAt w ps s K) (i : Int) : Calls Try.prog 22 #[sptr ps, .int .i64 i] w fun e w' => e = .returned (.tuple #[.int .u64 ((s.M.at i).getD 0), .bool (s.M.at i).isSome]) ∧ w' = w := by
  have HV := Lib.hid (st_valid h)
  obtain ⟨pa, pt, mb, n, vl, la, lT, lb, c, hB, rfl, c0, c1, c2, c3, c4, c5, c6⟩ := h.open
  have HL := Lib.hid (tab_id i hB.tb)
  clear h hB
  generalize (s.M.at i).getD 0 = x at *
  generalize (s.M.at i).isSome = b at *
  go_enter Try.func22, Try.ntmps22
  go_wp2_with fail
  refine HV.out.mono ?_
  rintro _ w ⟨rfl, rfl⟩
  go_wp2_with fail
  refine HL.out.mono ?_
  rintro _ w1 ⟨rfl, rfl⟩
  go_wp2
  go_ret2
  exact ⟨rfl, rfl⟩
/-- The ids in increasing order. -/
def Sm.ids (s : Sm) : List Nat := sortN (s.M.L.map (·.1))
/-- A slice reads the ids p. -/
def RowU (w : World) (v : Value) (p : List Nat) : Prop := w.ownsRow 0 30 1 v p.length (encId p)
theorem RowU.fr {v : Value} {p : List Nat} {S : List Nat} (h : RowU w v p) (hf : Fr S w w') (hs : ∀ q, v.ownBlock = some q → q ∉ S) : RowU w' v p :=
  ownsRow_same h (fun q hq => hf.keep q (ownsRow_ltS h hq) (hs q hq))
theorem RowU.fr0 {v : Value} {p : List Nat} (h : RowU w v p) (hf : Fr [] w w') : RowU w' v p := h.fr hf (by simp)
theorem RowU.slice {v : Value} {p : List Nat} (h : RowU w v p) : ∃ a cap, v = .slice a p.length cap := ownsRow_slice h
theorem RowU.lt {v : Value} {p : List Nat} (h : RowU w v p) {q : Nat} (hq : v.ownBlock = some q) : q < w.heap.size := ownsRow_ltS h hq
theorem RowU.at {v : Value} {p : List Nat} (h : RowU w v p) {i : Nat} (hi : i < p.length) : ∃ b cap, v = .slice (some ⟨b, 0, none⟩) p.length cap ∧ b < w.heap.size ∧ w.cell? ⟨b, i, none⟩ = some (.int .u64 (p[i]'hi)) := by
  obtain ⟨b, cap, e, _, h2, h3, _⟩ := ownsRow_at h hi
  exact ⟨b, cap, e, h2, h3.trans (by simp [encId, hi])⟩
theorem Sm.ids_len (s : Sm) : s.ids.length = s.M.L.length := by unfold Sm.ids; rw [sortN_len, List.length_map]
theorem st_ids (h : StoreAt w ps s K) : Calls Try.prog 19 #[sptr ps] w fun e w' => ∃ v, e = .returned v ∧ RowU w' v s.ids ∧ (∀ q, v.ownBlock = some q → w.heap.size ≤ q) ∧ Fr [] w w' := by
  have HV := Lib.hid (st_valid h)
  obtain ⟨pa, pt, mb, n, vl, la, lT, lb, c, hB, rfl, c0, c1, c2, c3, c4, c5, c6⟩ := h.open
  have HL := Lib.hid (tab_list hB.tb)
  clear h hB
  go_enter Try.func19, Try.ntmps19
  go_wp2_with fail
  refine HV.out.mono ?_
  rintro _ w ⟨rfl, rfl⟩
  go_wp2_with fail
  refine HL.out.mono ?_
  rintro _ w1 ⟨v, rfl, h1, h2, h3⟩
  have HB := Lib.hid (And.intro h1 (And.intro h2 h3)); clear h1 h2 h3
  go_wp2
  go_ret
  exact ⟨v, rfl, by unfold RowU; rw [Sm.ids_len]; exact HB.out.1, HB.out.2.1, HB.out.2.2⟩
end
end Go.Proofs.Ytbegdgnhpklceaa

namespace Go.Proofs.Ytbegdgnhpklceaa
open Go.RowKit
set_option maxRecDepth 10000
set_option maxHeartbeats 1600000

abbrev recA (u v : Nat) (wt t : Int) : Value := .agg #[.int .u64 u, .int .u64 v, .int .i64 wt, .int .i64 t]
@[go_sem] theorem index2_0 (a b : Value) (w : World) : (Instr.index 76 (.agg #[a, b]) (.int .i64 0)).run Try.prog w = .ok a w := by kernel_rfl
@[go_sem] theorem index2_1 (a b : Value) (w : World) : (Instr.index 76 (.agg #[a, b]) (.int .i64 1)).run Try.prog w = .ok b w := by kernel_rfl
def nf (b : Bool) : Nat := if b = true then 0 else 1
theorem nf_le (b : Bool) : nf b ≤ 1 := by unfold nf; split <;> omega
def moreK (a b : Bool) (k : Nat) : Nat := (if 0 < k then nf a else 0) + if 1 < k then nf b else 0
section
variable {w w' : World} {ps : Nat} {s : Sm} {K : List Nat}
theorem st_check (h : StoreAt w ps s K) (u v : Nat) (hu : u < 18446744073709551616) (hv : v < 18446744073709551616) (wt t : Int) :
    Calls Try.prog 23 #[sptr ps, recA u v wt t] w fun e w' => e = .returned (.int .i64 (s.chk u v)) ∧ Fr [] w w' := by
  have H := Lib.hid h
  have hok := h.ok
  have hE := hok.leE
  have hV4 := hok.leV
  have hmn := hok.md.cnt
  have hmb := hok.md.ar.hb
  have hms := hok.ms
  simp only [Md.ar] at hmb
  have hml : s.M.L.length ≤ 4096 := by omega
  have hau : s.A.used ≤ 16384 := by
    have h1 := hok.ar.hb
    have h2 := hok.sl
    unfold Ar.used
    omega
  clear hmn hmb hms hok h
  obtain ⟨code, hcode⟩ : ∃ code, code = s.chk u v := ⟨_, rfl⟩
  rw [← hcode]
  have HCD := Lib.hid hcode; clear hcode
  go_enter Try.func23, Try.ntmps23
  go_wp2_with fail
  have hf0 : Fr [] w (w.alloc (.cells #[.int .u64 u, .int .u64 v, .int .i64 wt, .int .i64 t] 32)) := (Fr.refl [] w).alloc _
  have hbx : Blk (w.alloc (.cells #[.int .u64 u, .int .u64 v, .int .i64 wt, .int .i64 t] 32)) w.heap.size 32 [.int .u64 u, .int .u64 v, .int .i64 wt, .int .i64 t] := Blk.new w _ _
  have hlt0 : w.heap.size < (w.alloc (.cells #[.int .u64 u, .int .u64 v, .int .i64 wt, .int .i64 t] 32)).heap.size := by simp
  generalize w.alloc (.cells #[.int .u64 u, .int .u64 v, .int .i64 wt, .int .i64 t] 32) = w1 at *
  have r0 := hbx.cell 0
  have r1 := hbx.cell 1
  simp only [List.getElem?_cons_zero, List.getElem?_cons_succ] at r0 r1
  obtain ⟨pa, pt, mb, n, vl, la, lT, lb, c, hB, hK, c0, c1, c2, c3, c4, c5, c6⟩ := (H.out.fr0 hf0).open
  have HV := Lib.hid (st_valid (H.out.fr0 hf0))
  have HF0 := Lib.hid hf0
  have HA := Lib.hid (fun (w' : World) (hf : Fr [] w1 w') => arena_len (hB.fr hf (by simp)).ar)
  have HT := Lib.hid (fun (w' : World) (hf : Fr [] w1 w') => tab_len (hB.fr hf (by simp)).tb)
  have HG := Lib.hid (fun (w' : World) (hf : Fr [] w1 w') (id : Nat) (hid : id < 18446744073709551616) => tab_get id hid (hB.fr hf (by simp)).tb)
  clear hf0 hbx hB hK c2 c5 c6 hlt0
  refine HV.out.mono ?_
  rintro _ w1 ⟨rfl, rfl⟩
  clear HV
  by_cases huv : u = v
  · subst huv
    have HCD' := Lib.hid (show code = 9 by rw [HCD.out]; unfold Sm.chk; rw [if_pos rfl])
    go_wp2_with fail
    go_ret
    exact ⟨by rw [HCD'.out]; rfl, HF0.out⟩
  · have d1 : ((u : Int) == v) = false := beq_eq_false_iff_ne.2 (by omega)
    have HUV := Lib.hid huv; clear huv
    go_wp2_with fail
    obtain ⟨au, hau2⟩ : ∃ au, au = s.A.used := ⟨_, rfl⟩
    rw [← hau2] at HA hau
    have HAU := Lib.hid hau2; clear hau2
    refine region_cw (fun w' => Fr [] w1 w') (by kernel_rfl) (by kernel_rfl) ((Fr.refl [] w1).drew) ?_
    iterate 3 (refine cw_pure (by kernel_rfl) (fun KK hK => ?_); go_simp; refine hK.out _ ?_; clear hK KK)
    refine cw_val (by kernel_rfl) (ptr pa) (fun w' hw' => ?_) ?_
    · have c3 := hw'.cell c3 (by simp)
      go_simp
      first | exact hw' | exact ⟨rfl, hw'⟩ | skip
    refine cw_val (by kernel_rfl) (.int .i64 au) (fun w' hw' => ?_) ?_
    · go_simp
      refine (HA.out w' hw').mono ?_
      rintro _ w6 ⟨rfl, rfl⟩
      exact ⟨rfl, hw'⟩
    iterate 3 (refine cw_pure (by kernel_rfl) (fun KK hK => ?_); go_simp; refine hK.out _ ?_; clear hK KK)
    refine cw_val (by kernel_rfl) (.int .i64 s.E) (fun w' hw' => ?_) ?_
    · have c1 := hw'.cell c1 (by simp)
      go_simp
      first | exact hw' | exact ⟨rfl, hw'⟩ | skip
    iterate 1 (refine cw_pure (by kernel_rfl) (fun KK hK => ?_); go_simp; refine hK.out _ ?_; clear hK KK)
    refine cw_nil ?_
    intro w2 hf2
    have r0 := hf2.cell r0 (by simp)
    have r1 := hf2.cell r1 (by simp)
    have c0 := hf2.cell c0 (by simp)
    have c4 := hf2.cell c4 (by simp)
    have HT2 := Lib.hid (HT.out w2 hf2)
    have HF2 := Lib.hid hf2
    clear hf2 HT HA c1 c3 d1
    by_cases hfull : s.E ≤ au
    · have HCD' := Lib.hid (show code = 12 by rw [HCD.out]; unfold Sm.chk; rw [if_neg HUV.out, ← HAU.out, if_pos hfull])
      have d1 : decide ((s.E : Int) ≤ au) = true := decide_eq_true (by omega)
      go_wp2_with fail
      go_ret
      exact ⟨by rw [HCD'.out]; rfl, HF0.out.trans' HF2.out⟩
    · have d1 : decide ((s.E : Int) ≤ au) = false := decide_eq_false (by omega)
      have d2 : decide (s.E ≤ au) = false := decide_eq_false (by omega)
      have HFU := Lib.hid hfull; clear hfull
      go_wp2_with fail
      refine HT2.out.mono ?_
      rintro _ w2 ⟨rfl, rfl⟩
      clear HT2 d1 d2
      go_wp2_with fail
      have Hu := Lib.hid hu; have Hv := Lib.hid hv
      clear r0 r1
      go_loopw [5, 38] (fun x y wr => ∃ k m : Nat, k ≤ 2 ∧ y = .int .i64 k ∧ x = .int .i64 m ∧ m ≤ 4096 + k ∧ Hid (m = s.M.L.length + moreK (s.M.find u).isSome (s.M.find v).isSome k) ∧ Hid (Fr [] w2 wr)) (fun _ y _ => 2 - (intOf y).toNat)
      case atStart => exact ⟨0, s.M.L.length, by omega, rfl, rfl, by omega, Lib.hid (by simp [moreK]), Lib.hid (Fr.refl _ _)⟩
      case round =>
        obtain ⟨k, m, hk, rfl, rfl, hm, HM, HF⟩ := hrel
        by_cases hlt : k < 2
        · have hk2 : k = 0 ∨ k = 1 := by omega
          clear hlt hk
          rcases hk2 with rfl | rfl
          · have HGu := Lib.hid (HG.out wr (HF2.out.trans' HF.out) u Hu.out)
            have c4 := HF.out.cell c4 (by simp)
            generalize hfu : (s.M.find u).isSome = fu at *
            have HFU2 := Lib.hid hfu; clear hfu
            generalize (s.M.find u).getD 0 = iu at *
            rename World => wo
            go_wp2_with fail
            refine HGu.out.mono ?_
            rintro _ w5 ⟨rfl, _, hb5⟩
            have HF5 := Lib.hid (HF.out.trans' (Fr.of_below hb5))
            clear hb5 HGu c4
            cases fu with
            | true =>
              go_wp2_with fail
              go_roundw
              case rel => exact ⟨1, m, by omega, rfl, rfl, by omega, Lib.hid (by rw [HM.out]; simp [moreK, nf]), HF5⟩
              case measure => simp [intOf]
            | false =>
              go_wp2_with fail
              go_roundw
              case rel => exact ⟨1, m + 1, by omega, rfl, by go_num, by omega, Lib.hid (by rw [HM.out]; simp [moreK, nf]; try omega), HF5⟩
              case measure => simp [intOf]
          · have HGu := Lib.hid (HG.out wr (HF2.out.trans' HF.out) v Hv.out)
            have c4 := HF.out.cell c4 (by simp)
            generalize hfu : (s.M.find v).isSome = fu at *
            have HFU2 := Lib.hid hfu; clear hfu
            generalize (s.M.find v).getD 0 = iu at *
            rename World => wo
            go_wp2_with fail
            refine HGu.out.mono ?_
            rintro _ w5 ⟨rfl, _, hb5⟩
            have HF5 := Lib.hid (HF.out.trans' (Fr.of_below hb5))
            clear hb5 HGu c4
            cases fu with
            | true =>
              go_wp2_with fail
              go_roundw
              case rel => exact ⟨2, m, by omega, rfl, rfl, by omega, Lib.hid (by rw [HM.out]; simp [moreK, nf]), HF5⟩
              case measure => simp [intOf]
            | false =>
              go_wp2_with fail
              go_roundw
              case rel => exact ⟨2, m + 1, by omega, rfl, by go_num, by omega, Lib.hid (by rw [HM.out]; simp [moreK, nf]; try omega), HF5⟩
              case measure => simp [intOf]
        · obtain rfl : k = 2 := by omega
          have c0 := HF.out.cell c0 (by simp)
          have hmore : m = s.M.L.length + s.more u v := by rw [HM.out]; simp [moreK, nf, Sm.more]
          by_cases hov : s.V < m
          · have HCD' := Lib.hid (show code = 11 by rw [HCD.out]; unfold Sm.chk; rw [if_neg HUV.out, ← HAU.out, if_neg HFU.out, ← hmore, if_pos hov])
            have d1 : decide ((m : Int) > s.V) = true := decide_eq_true (by omega)
            clear hmore
            go_wp2_with fail
            go_ret
            exact ⟨by rw [HCD'.out]; rfl, (HF0.out.trans' HF2.out).trans' HF.out⟩
          · have HCD' := Lib.hid (show code = 0 by rw [HCD.out]; unfold Sm.chk; rw [if_neg HUV.out, ← HAU.out, if_neg HFU.out, ← hmore, if_neg hov])
            have d1 : decide ((m : Int) > s.V) = false := decide_eq_false (by omega)
            have d2 : decide (s.V < m) = false := decide_eq_false (by omega)
            clear hmore
            go_wp2_with fail
            go_ret
            exact ⟨by rw [HCD'.out]; rfl, (HF0.out.trans' HF2.out).trans' HF.out⟩
end
end Go.Proofs.Ytbegdgnhpklceaa
