/- lct: Copy. -/
import Derived.Deep.RegionHeld3
import Derived.Shelf.SlGeneric
import Derived.Ground.SlgnProg
import Derived.Shelf.SlicesE.Clone
import Derived.Test.YtoppjjgecgbbkaaLctCut
namespace Go.Proofs.Ytoppjjgecgbbkaa
open Go.RowKit Classical
set_option maxRecDepth 10000
set_option maxHeartbeats 800000

shelf_lay_g SlLaysE0.n41 Slgn 41 at Try 49 as Try.laysClone

theorem fv_one (n : Nd) (f : Nat) : (fv n f).oneCell' = true := by
  match f with
  | 0 | 1 | 2 | 3 | 4 | 5 | 6 | 7 => rfl
  | _ + 8 => rfl

theorem clone_w {w : World} {g N cap : Nat} {σ : Tbl} (h : NodesAt w g N σ) (hN : N ≤ 65537) (h0 : 0 < N) :
    Calls Try.prog 49 #[.slice (some ⟨g, 0, none⟩) N cap] w fun e w' => ∃ g' cap', e = .returned (.slice (some ⟨g', 0, none⟩) N cap') ∧ N ≤ cap' ∧ NodesAt w' g' N σ ∧ w.heap.size ≤ g' ∧ Fr [] w w' := by
  obtain ⟨i0, hi, hz0, hz1, hz2⟩ := info_parts Try.info71
  obtain ⟨arr, ha, hs, hc⟩ := h
  have hl : (arr.toList.take (N * 9)).length = N * 9 := by simp; omega
  have hat : ∀ j u, (arr.toList.take (N * 9))[j]? = some u → j < N * 9 ∧ arr[j]? = some u := by
    intro j u hj
    rw [List.getElem?_take] at hj
    split at hj
    · exact ⟨by assumption, by simpa using hj⟩
    · cases hj
  refine (AnyE.slices_Clone Try.laysClone i0 ndv 9 72 hi hz0 hz1 hz2 (by rw [ndv_cells]; rfl) (by decide) Try.sizeOf71 g 0 N cap (arr.toList.take (N * 9)) w hl (by unfold maxLen; omega) (by omega) (fun j u hj => by
      have := (hat j u hj).2
      simp [World.cell?, ha, this]) (fun u hu => by
      obtain ⟨j, hj⟩ := List.mem_iff_getElem?.1 hu
      obtain ⟨h1, h2⟩ := hat j u hj
      have := hc (j / 9) (by omega) (j % 9) (Nat.mod_lt _ (by decide))
      rw [show j / 9 * 9 + j % 9 = j by omega, h2] at this
      cases this; exact fv_one _ _)).mono ?_
  rintro _ w' ⟨v, rfl, ⟨_, hv⟩, hn, hB⟩
  rcases hv with ⟨rfl, _⟩ | ⟨g', cap', cur, rfl, hg, hcur, hcap, _, hsz, htk⟩
  · exact absurd rfl hn
  · refine ⟨g', cap', rfl, hcap, ⟨cur, hcur, by omega, fun i hi f hf => ?_⟩, hg, Fr.of_below hB⟩
    rw [← hc i hi f hf]
    have h1 : (cur.toList.take (N * 9))[i * 9 + f]? = cur[i * 9 + f]? := by rw [List.getElem?_take, if_pos (by omega)]; simp
    have h2 : (arr.toList.take (N * 9))[i * 9 + f]? = arr[i * 9 + f]? := by rw [List.getElem?_take, if_pos (by omega)]; simp
    rw [← h1, ← h2, htk]

theorem copy_w {w : World} {pf g n : Nat} {E : Nat → Nat → Prop} {key : Nat → Int} (h : LM w pf g n E key) :
    Calls Try.prog 29 #[.pointer (some ⟨pf, 0, none⟩)] w fun e w' => ∃ pf' g', e = .returned (.pointer (some ⟨pf', 0, none⟩)) ∧ LM w' pf' g' n E key ∧ Fr [] w w' ∧ w.heap.size ≤ pf' ∧ w.heap.size ≤ g' := by
  have H := Lib.hid h
  obtain ⟨cap, σ, F, par, d, rt, hL, hF, hE, hk⟩ := h
  have hN := hL.le
  have HR := Lib.hid (And.intro hF (And.intro hE hk)); clear hF hE hk
  have c1 := hL.hd.cell 1
  have c2 := hL.hd.cell 2
  simp only [List.getElem?_cons_zero, List.getElem?_cons_succ] at c1 c2
  have hpf := hL.hd.lt
  have HL := Lib.hid hL
  go_enter Try.func29, Try.ntmps29
  go_wp2_with fail
  refine (valid_w (hL.hd.cell 0)).mono ?_
  rintro _ w1 ⟨rfl, rfl⟩
  have HC := Lib.hid (clone_w (cap := cap) (hL.nodes.eqv (Eqv.drew w1)) hN (by omega))
  generalize hed : (n : Int) - nc n E = ed at *
  go_wp2
  go_region_held3 (fun w' => w'.cell? ⟨pf, 1, none⟩ = some (.slice (some ⟨g, 0, none⟩) (n + 1) cap) ∧ w'.cell? ⟨pf, 2, none⟩ = some (.int .i64 ed))
    (first
      | go_keep
      | (exact ⟨hF3.cell (by assumption) (by simp), hF3.cell (by assumption) (by simp)⟩))
    (first
      | (go_at_call 49; refine HC.out.mono ?_; rintro e w3 ⟨g', cap', rfl, hcap', hNd', hg', hF3⟩))
  go_wp2
  go_ret
  have hlt := hNd'.lt
  have hsz := hF3.size
  have hsz2 : w1.drew.heap.size = w1.heap.size := rfl
  refine ⟨w3.heap.size, g', rfl, ?_, ((Fr.refl [] w1).drew.trans' hF3).alloc _, by omega, by omega⟩
  show LG _ _ _ _ _ _ ((n : Int) - nc n E)
  rw [hed]
  exact ⟨cap', σ, F, par, d, rt, ⟨Blk.new w3 [_, _, _] 65, hNd'.same (by rw [heap_alloc_old w3 _ hlt]), by omega, hN, hcap'⟩, HR.out.1, HR.out.2.1, HR.out.2.2⟩

end Go.Proofs.Ytoppjjgecgbbkaa
