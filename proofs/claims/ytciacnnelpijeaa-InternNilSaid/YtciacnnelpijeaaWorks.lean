/- The example of the chapter, which every statement about layer 3 runs at its end. -/
import Derived.Test.YtciacnnelpijeaaInternM
namespace Go.Proofs.Ytciacnnelpijeaa
open Go.RowKit
set_option maxRecDepth 10000
set_option maxHeartbeats 400000

theorem tab_put_eq {w : World} {pt : Nat} {M M' : Md} {l : List Nat} {id i e : Nat} {a : Bool} (hid : id < 18446744073709551616) (h : TabM w pt M l) (hp : M.put id = ⟨i, a, e, M'⟩) :
    Calls Try.prog 16 #[ptr pt, .int .u64 id] w fun r w' => r = .returned (.tuple #[.int .i64 i, .bool a, .int .i64 e]) ∧ ∃ l', TabM w' pt M' l' ∧ Next l l' w w' := by
  have := tab_put id hid h
  rw [hp] at this
  exact this
theorem tab_del_eq {w : World} {pt : Nat} {M M' : Md} {l : List Nat} {id e : Nat} (hid : id < 18446744073709551616) (h : TabM w pt M l) (hp : M.del id = ⟨e, M'⟩) :
    Calls Try.prog 15 #[ptr pt, .int .u64 id] w fun r w' => r = .returned (.int .i64 e) ∧ TabM w' pt M' l ∧ Next l l w w' := by
  have := tab_del id hid h
  rw [hp] at this
  exact this

theorem works_w (w : World) : Calls Try.prog 13 #[] w fun e w' => e = .returned (.bool true) ∧ Below w.heap.size w w' := by
  go_enter Try.func13, Try.ntmps13
  go_wp2_with fail
  refine (tab_new 3 w (by decide)).mono ?_
  rintro e w1 ⟨pt, rfl, l1, h1, n1⟩
  go_wp2_with fail
  refine (tab_put_eq (id := 70) (i := 0) (e := 0) (a := true) (M' := ⟨3, [(70, 0)], [], 1⟩) (by decide) h1 rfl).mono ?_
  rintro e w2 ⟨rfl, l2, h2, n2⟩
  go_wp2_with fail
  refine (tab_put_eq (id := 80) (i := 1) (e := 0) (a := true) (M' := ⟨3, [(70, 0), (80, 1)], [], 2⟩) (by decide) h2 rfl).mono ?_
  rintro e w3 ⟨rfl, l3, h3, n3⟩
  go_wp2_with fail
  refine (tab_put_eq (id := 70) (i := 0) (e := 0) (a := false) (M' := ⟨3, [(70, 0), (80, 1)], [], 2⟩) (by decide) h3 rfl).mono ?_
  rintro e w4 ⟨rfl, l4, h4, n4⟩
  go_wp2_with fail
  refine (tab_del_eq (id := 70) (e := 0) (M' := ⟨3, [(80, 1)], [0], 2⟩) (by decide) h4 rfl).mono ?_
  rintro e w5 ⟨rfl, h5, n5⟩
  go_wp2_with fail
  refine (tab_put_eq (id := 90) (i := 0) (e := 0) (a := true) (M' := ⟨3, [(80, 1), (90, 0)], [], 2⟩) (by decide) h5 rfl).mono ?_
  rintro e w6 ⟨rfl, l6, h6, n6⟩
  go_wp2_with (go_at_call 17; refine (tab_len h6).mono ?_; rintro e w' ⟨rfl, rfl⟩)
  go_ret
  exact ⟨rfl, ((((((n1.trans n2).trans n3).trans n4).trans n5).trans n6).1).below (by simp)⟩

end Go.Proofs.Ytciacnnelpijeaa
