/- Walks of single functions of the given Go program, printed by a program of mine; each theorem says what the function returns. -/
import Derived.Test.YtgkfhppmopmgjaaRows
import Derived.WalkKit
import Derived.WalkSpells
import Derived.WalkLawsBesides
import Derived.Handy
import Derived.Deep.QuietTactic
import Derived.BigQuiet
import Derived.Lib.Hide
import Derived.Test.YtgkfhppmopmgjaaCP
import Derived.Test.YtgkfhppmopmgjaaIntS
import Derived.Deep.Cut
set_option linter.all false
namespace Go.Proofs.Ytgkfhppmopmgjaa
open Go.RowKit Pl Go.Lib Go.Shelf

set_option maxRecDepth 100000 in
set_option maxHeartbeats 4000000 in
theorem eqIntA2_same (x0 x1 : Int) (w : World) : Calls Try.prog 44 #[.agg #[.int .i64 x0, .int .i64 x1], .agg #[.int .i64 x0, .int .i64 x1]] w fun e w' => e = .returned (.bool true) ∧ RowKit.Below w.heap.size w w' := by
  go_enter Try.func44, Try.ntmps44
  go_wp2_with fail
  refine wp_loop_rounds 3 ?_
  iterate 2 (rw [rounds_succ]; go_wp2_with (go_quiet (fail)))
  rw [rounds_succ]
  go_wp2
  go_ret
  exact ⟨rfl, by (repeat' (first | (with_reducible exact RowKit.Below.refl _ _) | (with_reducible assumption) | (with_reducible refine Below.drewN ?_ _) | (with_reducible refine below_junk0 ?_ ?_ _ _) | (with_reducible refine RowKit.Below.alloc ?_ ?_ _) | (with_reducible refine below_setRow0 ?_ ?_) | (with_reducible refine RowKit.Below.setCell ?_ ?_ _) | (with_reducible refine RowKit.Below.drew ?_) | go_size | (simp only [size_junk]; go_size) | (simp only [World.size_alloc, size_junk, size_setRow]; omega) | omega))⟩
theorem ownP_some {W : World} {B n : Nat} {v : Value} {l : List Int} (hl : l.length = 2 * n) (h : W.ownsRow B 59 2 v n (l.map (Value.int .i64))) (h0 : ¬ n = 0) :
    ∃ g cap cur, v = .slice (some ⟨g, 0, none⟩) n cap ∧ B ≤ g ∧ g < W.heap.size ∧ W.heap[g]? = some (Obj.cells (cur) 59 (0, 0)) ∧ ∀ j, j < 2 * n → cur[j]? = some (.int .i64 (l.getD j 0)) := by
  obtain ⟨_, ⟨rfl, hn⟩ | ⟨g, cap, cur, rfl, hb, hblk, h4, h5, h6, h7⟩⟩ := h
  · exact absurd hn h0
  · refine ⟨g, cap, cur, rfl, hb, (Array.getElem?_eq_some_iff.1 hblk).1, hblk, fun j hj => ?_⟩
    have := congrArg (fun l => l[j]?) h7
    simp only [List.getElem?_take, show j < n * 2 by omega, if_true, List.getElem?_map, Array.getElem?_toList] at this
    rw [this, List.getElem?_eq_getElem (show j < l.length by omega)]
    simp [show j < l.length by omega]

set_option maxRecDepth 100000 in
set_option maxHeartbeats 4000000 in
theorem eqIntA2S_same {B1 B2 : Nat} {va vb : Value} {l : List Int} (w : World) (hA : OwnP w B1 va l) (hB : OwnP w B2 vb l) (hn : l.length < 1000000000) :
    Calls Try.prog 23 #[va, vb] w fun e w' => e = .returned (.bool true) ∧ RowKit.Below w.heap.size w w' := by
  obtain ⟨n, hl, hA⟩ := hA
  obtain ⟨n', hl', hB⟩ := hB
  obtain rfl : n = n' := by omega
  by_cases h0 : n = 0
  · subst h0
    obtain ⟨oa, ca, rfl⟩ := own_shape hA
    obtain ⟨ob, cb, rfl⟩ := own_shape hB
    clear hA hB
    go_enter Try.func23, Try.ntmps23
    go_wp2_with fail
    refine wp_loop_rounds 1 ?_
    rw [rounds_succ]
    go_wp2
    go_ret
    exact ⟨rfl, by (repeat' (first | (with_reducible exact RowKit.Below.refl _ _) | (with_reducible assumption) | (with_reducible refine Below.drewN ?_ _) | (with_reducible refine below_junk0 ?_ ?_ _ _) | (with_reducible refine RowKit.Below.alloc ?_ ?_ _) | (with_reducible refine below_setRow0 ?_ ?_) | (with_reducible refine RowKit.Below.setCell ?_ ?_ _) | (with_reducible refine RowKit.Below.drew ?_) | go_size | (simp only [size_junk]; go_size) | (simp only [World.size_alloc, size_junk, size_setRow]; omega) | omega))⟩
  · obtain ⟨ga, ca, ua, rfl, _, hga, hha, hca⟩ := ownP_some hl hA h0
    obtain ⟨gb, cb, ub, rfl, _, hgb, hhb, hcb⟩ := ownP_some hl hB h0
    have HL := Lib.hid hl
    have hn2 : n < 1000000000 := by omega
    clear hA hB hl hl' hn
    have HCA := Lib.hid hca
    have HCB := Lib.hid hcb
    clear hca hcb
    go_enter Try.func23, Try.ntmps23
    go_wp2_with fail
    go_loopw [5] (fun v5 wr => ∃ k : Nat, k ≤ n ∧ v5 = .int .i64 k ∧ Below w.heap.size w wr)
      (fun v5 _ => n - (intOf v5).toNat)
    case atStart => exact ⟨0, by omega, rfl, Below.refl _ _⟩
    case round =>
      obtain ⟨k, hk, rfl, hbel⟩ := hrel
      rcases Nat.lt_or_ge k n with hkn | hkn
      · have hwa : wr.heap[ga]? = some (Obj.cells (ua) 59 (0, 0)) := (hbel.block _ hga).trans hha
        have hwb : wr.heap[gb]? = some (Obj.cells (ub) 59 (0, 0)) := (hbel.block _ hgb).trans hhb
        have hlw := hbel.size
        have hga' : ga < wr.heap.size := Nat.lt_of_lt_of_le hga hbel.size
        have hgb' : gb < wr.heap.size := Nat.lt_of_lt_of_le hgb hbel.size
        have ha0 : ua[k * 2]? = _ := HCA.out (k * 2) (by omega)
        have ha1 : ua[k * 2 + 1]? = _ := HCA.out (k * 2 + 1) (by omega)
        have hb0 : ub[k * 2]? = _ := HCB.out (k * 2) (by omega)
        have hb1 : ub[k * 2 + 1]? = _ := HCB.out (k * 2 + 1) (by omega)
        obtain ⟨x, hx⟩ : ∃ x, x = l.getD (k * 2) 0 := ⟨_, rfl⟩
        obtain ⟨y, hy⟩ : ∃ y, y = l.getD (k * 2 + 1) 0 := ⟨_, rfl⟩
        rw [← hx] at ha0 hb0
        rw [← hy] at ha1 hb1
        clear hx hy
        go_upto_region 6 with fail
        refine wp_region_quiet_junk (by kernel_rfl) (by kernel_rfl) ?_
        (repeat (first | ((with_reducible apply loadQm (ty := 59) (cs := [.int .i64 x, .int .i64 y]) Try.underlying59); (focus with_unfolding_all exact rfl); (focus ((rintro _ ⟨p, rfl⟩); ((repeat' (first | (with_reducible assumption) | ((with_reducible refine heap_new ?_); (focus (first | (simp only [World.size_alloc, size_junk, size_setRow, Array.size_append]; done) | (simp only [World.size_alloc, size_junk, size_setRow, Array.size_append]; omega) | omega))) | ((with_reducible refine heap_old ?_ ?_); (focus (first | (simp only [World.size_alloc, size_junk, size_setRow, Array.size_append]; done) | (simp only [World.size_alloc, size_junk, size_setRow, Array.size_append]; omega) | omega))) | ((with_reducible refine heap_junk ?_ ?_); (focus (first | (simp only [World.size_alloc, size_junk, size_setRow, Array.size_append]; done) | (simp only [World.size_alloc, size_junk, size_setRow, Array.size_append]; omega) | omega))) | ((with_reducible apply heap_setRow_same)) | ((with_reducible refine heap_setRow_other ?_ ?_); (focus (first | (simp only [World.size_alloc, size_junk, size_setRow, Array.size_append]; done) | (simp only [World.size_alloc, size_junk, size_setRow, Array.size_append]; omega) | omega)))))); done)); (focus (intro j v hj; rcases j with _ | _ | j <;> first | (cases hj; first | exact ha0 | exact ha1 | exact hb0 | exact hb1) | simp at hj)); (focus rfl); (focus kernel_rfl)) | quiet_step ((with_reducible refine Calls.junk_to (eqIntA2_same _ _ _) (fun d os => ?_); (try simp only [junk_junk, Array.append_assoc]); with_reducible exact ⟨⟨d, _⟩, rfl⟩))))
        refine wpQuiet_nil ?_
        intro _ hw'
        obtain ⟨⟨dq, osq⟩, hw''⟩ := hw'
        subst hw''
        go_wp2
        go_roundw
        case rel => exact ⟨k + 1, by omega, by go_num, by (repeat' (first | (with_reducible exact RowKit.Below.refl _ _) | (with_reducible assumption) | (with_reducible refine Below.drewN ?_ _) | (with_reducible refine below_junk0 ?_ ?_ _ _) | (with_reducible refine RowKit.Below.alloc ?_ ?_ _) | (with_reducible refine below_setRow0 ?_ ?_) | (with_reducible refine RowKit.Below.setCell ?_ ?_ _) | (with_reducible refine RowKit.Below.drew ?_) | go_size | (simp only [size_junk]; go_size) | (simp only [World.size_alloc, size_junk, size_setRow]; omega) | omega))⟩
        case measure => simp [intOf]; omega
      · obtain rfl : k = n := by omega
        go_wp2
        go_ret
        exact ⟨rfl, by (repeat' (first | (with_reducible exact RowKit.Below.refl _ _) | (with_reducible assumption) | (with_reducible refine Below.drewN ?_ _) | (with_reducible refine below_junk0 ?_ ?_ _ _) | (with_reducible refine RowKit.Below.alloc ?_ ?_ _) | (with_reducible refine below_setRow0 ?_ ?_) | (with_reducible refine RowKit.Below.setCell ?_ ?_ _) | (with_reducible refine RowKit.Below.drew ?_) | go_size | (simp only [size_junk]; go_size) | (simp only [World.size_alloc, size_junk, size_setRow]; omega) | omega))⟩

theorem mkL_two {l : List Int} (k : Int) {j : Nat} (h : j * 2 + 1 < l.length) : mkL l k ((j + 1) * 2) = ((mkL l k (j * 2)).set (j * 2) (k + ((j * 2 : Nat) : Int))).set (j * 2 + 1) (k + ((j * 2 + 1 : Nat) : Int)) := by
  rw [show (j + 1) * 2 = j * 2 + 1 + 1 by omega, mkL_succ k h, mkL_succ k (by omega)]
set_option maxRecDepth 100000 in
set_option maxHeartbeats 4000000 in
theorem markIntA2S_any {B : Nat} {v : Value} {l : List Int} (k : Int) (w : World) (hA : OwnP w B v l) (hn : l.length < 1000000000) (hk : 0 ≤ k ∧ k ≤ 1000000000) (hB : B ≤ w.heap.size) :
    Calls Try.prog 24 #[v, .int .i64 k] w fun e w' => e = .returned (.int .i64 (k + (l.length : Int))) ∧ OwnP w' B v (upL k l.length) ∧ RowKit.Below B w w' := by
  obtain ⟨n, hl, hA⟩ := hA
  by_cases h0 : n = 0
  · subst h0
    have e0 : l = [] := List.length_eq_zero_iff.1 (by omega)
    subst e0
    obtain ⟨oa, ca, rfl⟩ := own_shape hA
    have HA := Lib.hid hA; clear hA hl
    go_enter Try.func24, Try.ntmps24
    go_wp2_with fail
    refine wp_loop_rounds 1 ?_
    rw [rounds_succ]
    go_wp2
    go_ret
    exact ⟨by simp, ⟨0, rfl, HA.out⟩, by (repeat' (first | (with_reducible exact RowKit.Below.refl _ _) | (with_reducible assumption) | (with_reducible refine Below.drewN ?_ _) | (with_reducible refine below_junk0 ?_ ?_ _ _) | (with_reducible refine RowKit.Below.alloc ?_ ?_ _) | (with_reducible refine below_setRow0 ?_ ?_) | (with_reducible refine RowKit.Below.setCell ?_ ?_ _) | (with_reducible refine RowKit.Below.drew ?_) | go_size | (simp only [size_junk]; go_size) | (simp only [World.size_alloc, size_junk, size_setRow]; omega) | omega))⟩
  · obtain ⟨g, cap, cur, rfl, hBg, hg, _, _⟩ := ownP_some hl hA h0
    have HA := Lib.hid hA; clear hA
    have HL := Lib.hid hl
    have hn2 : n < 500000000 := by omega
    clear hl hn
    go_enter Try.func24, Try.ntmps24
    go_wp2_with fail
    go_loopw [1, 5] (fun v1 v5 wr => ∃ j : Nat, j ≤ n ∧ v5 = .int .i64 j ∧ v1 = .int .i64 (k + ((j * 2 : Nat) : Int)) ∧ wr.ownsRow B 59 2 (.slice (some ⟨g, 0, none⟩) n cap) n ((mkL l k (j * 2)).map (Value.int .i64)) ∧ RowKit.Below B w wr)
      (fun _ v5 _ => n - (intOf v5).toNat)
    case atStart => exact ⟨0, by omega, rfl, by simp, by rw [Nat.zero_mul, mkL_zero]; exact HA.out, Below.refl _ _⟩
    case round =>
      obtain ⟨j, hj, rfl, rfl, hown, hbel⟩ := hrel
      rcases Nat.lt_or_ge j n with hjn | hjn
      · have hfz0 := hown.frozenAt (j * 2)
        have hfz1 := hown.frozenAt (j * 2 + 1)
        have hst0 := (hown.stored (j * 2) (.int .i64 (k + ((j * 2 : Nat) : Int)))).1
        have hst1 := (hst0.stored (j * 2 + 1) (.int .i64 (k + ((j * 2 + 1 : Nat) : Int)))).1
        have hml : (mkL l k (j * 2)).length = l.length := mkL_length k (by have := HL.out; omega)
        have hce0 := hown.cellAt (j * 2) (by omega)
        have hce1 := hown.cellAt (j * 2 + 1) (by omega)
        rw [show (List.map (Value.int .i64) (mkL l k (j * 2)))[j * 2]? = some (.int .i64 ((mkL l k (j * 2)).getD (j * 2) 0)) by (have := HL.out; simp [show j * 2 < (mkL l k (j * 2)).length by omega])] at hce0
        rw [show (List.map (Value.int .i64) (mkL l k (j * 2)))[j * 2 + 1]? = some (.int .i64 ((mkL l k (j * 2)).getD (j * 2 + 1) 0)) by (have := HL.out; simp [show j * 2 + 1 < (mkL l k (j * 2)).length by omega])] at hce1
        have HS := Lib.hid hst1; clear hst0 hst1
        have HO := Lib.hid hown; clear hown hml
        generalize (mkL l k (j * 2)).getD (j * 2) 0 = x at *
        generalize (mkL l k (j * 2)).getD (j * 2 + 1) 0 = y at *
        have hgw : g < wr.heap.size := Nat.lt_of_lt_of_le hg hbel.size
        have hdj : decide ((j : Int) < n) = true := decide_eq_true (by omega)
        go_wp2_with fail
        refine wp_loop_rounds 3 ?_
        rw [rounds_succ]; go_wp2
        rw [rounds_succ]; go_wp2
        rw [rounds_succ]; go_wp2
        go_roundw
        case rel =>
          refine ⟨j + 1, by omega, by go_num, by (congr 1; omega), ?_, (hbel.setCell hBg _).setCell hBg _⟩
          rw [mkL_two k (by have := HL.out; omega), List.map_set, List.map_set]
          have h := HS.out
          simp only [Int.natCast_add, Int.natCast_mul, Int.natCast_one, Int.cast_ofNat_Int, Int.add_assoc] at h ⊢
          exact h
        case measure => simp [intOf]; omega
      · obtain rfl : j = n := by omega
        have HO := Lib.hid hown; clear hown
        go_wp2
        go_ret
        refine ⟨by rw [HL.out, Nat.mul_comm]; rfl, ⟨j, by rw [upL_length, HL.out], ?_⟩, hbel⟩
        have h := HO.out
        rw [show j * 2 = l.length by have := HL.out; omega, mkL_all] at h
        exact h

set_option maxRecDepth 100000 in
set_option maxHeartbeats 4000000 in
theorem heldIntA2S_any {B : Nat} {v : Value} {m : Nat} (k : Int) (w : World) (hA : OwnP w B v (upL k m)) (hn : m < 1000000000) (hk : 0 ≤ k ∧ k ≤ 1000000000) :
    Calls Try.prog 25 #[v, .int .i64 k] w fun e w' => e = .returned (.int .i64 (k + (m : Int))) ∧ RowKit.Below w.heap.size w w' := by
  obtain ⟨n, hl, hA⟩ := hA
  by_cases h0 : n = 0
  · subst h0
    rw [upL_length] at hl
    have e0 : m = 0 := by omega
    subst e0
    obtain ⟨oa, ca, rfl⟩ := own_shape hA
    clear hA hl
    go_enter Try.func25, Try.ntmps25
    go_wp2_with fail
    refine wp_loop_rounds 1 ?_
    rw [rounds_succ]
    go_wp2
    go_ret
    exact ⟨by simp, by (repeat' (first | (with_reducible exact RowKit.Below.refl _ _) | (with_reducible assumption) | (with_reducible refine Below.drewN ?_ _) | (with_reducible refine below_junk0 ?_ ?_ _ _) | (with_reducible refine RowKit.Below.alloc ?_ ?_ _) | (with_reducible refine below_setRow0 ?_ ?_) | (with_reducible refine RowKit.Below.setCell ?_ ?_ _) | (with_reducible refine RowKit.Below.drew ?_) | go_size | (simp only [size_junk]; go_size) | (simp only [World.size_alloc, size_junk, size_setRow]; omega) | omega))⟩
  · obtain ⟨g, cap, cur, rfl, hBg, hg, hblk, hcc⟩ := ownP_some hl hA h0
    rw [upL_length] at hl
    have hcell : ∀ q, q < 2 * n → w.cell? ⟨g, q, none⟩ = some (.int .i64 (k + (q : Int))) := fun q hq => by
      rw [cell_of_row w g q cur _ (0, 0) hblk, hcc q hq, upL_getD (by omega)]
    have HC := Lib.hid hcell
    have HL := Lib.hid hl
    have hn2 : n < 500000000 := by omega
    clear hA hblk hcc hcell hl hn
    go_enter Try.func25, Try.ntmps25
    go_wp2_with fail
    go_loopw [1, 5] (fun v1 v5 wr => ∃ j : Nat, j ≤ n ∧ v5 = .int .i64 j ∧ v1 = .int .i64 (k + ((j * 2 : Nat) : Int)) ∧ wr = w)
      (fun _ v5 _ => n - (intOf v5).toNat)
    case atStart => exact ⟨0, by omega, rfl, by simp, rfl⟩
    case round =>
      obtain ⟨j, hj, rfl, rfl, rfl⟩ := hrel
      rcases Nat.lt_or_ge j n with hjn | hjn
      · have hce0 := HC.out (j * 2) (by omega)
        have hce1 := HC.out (j * 2 + 1) (by omega)
        rw [show (k + ((j * 2 + 1 : Nat) : Int)) = k + ((j * 2 : Nat) : Int) + 1 by omega] at hce1
        have hdj : decide ((j : Int) < n) = true := decide_eq_true (by omega)
        go_wp2_with fail
        refine wp_loop_rounds 3 ?_
        rw [rounds_succ]; go_wp2
        rw [rounds_succ]; go_wp2
        rw [rounds_succ]; go_wp2
        go_roundw
        case rel => exact ⟨j + 1, by omega, by go_num, by (congr 1; omega), by trivial⟩
        case measure => simp [intOf]; omega
      · obtain rfl : j = n := by omega
        go_wp2
        go_ret
        exact ⟨by rw [HL.out, Nat.mul_comm]; rfl, by (repeat' (first | (with_reducible exact RowKit.Below.refl _ _) | (with_reducible assumption) | (with_reducible refine Below.drewN ?_ _) | (with_reducible refine below_junk0 ?_ ?_ _ _) | (with_reducible refine RowKit.Below.alloc ?_ ?_ _) | (with_reducible refine below_setRow0 ?_ ?_) | (with_reducible refine RowKit.Below.setCell ?_ ?_ _) | (with_reducible refine RowKit.Below.drew ?_) | go_size | (simp only [size_junk]; go_size) | (simp only [World.size_alloc, size_junk, size_setRow]; omega) | omega))⟩
end Go.Proofs.Ytgkfhppmopmgjaa
