/- Walks of single functions of the given Go program, printed by a program of mine; each theorem says what the function returns. -/
import Derived.Test.YtgkfhppmopmgjaaRows
import Derived.WalkKit
import Derived.WalkSpells
import Derived.WalkLawsBesides
import Derived.Handy
import Derived.Deep.QuietTactic
import Derived.BigQuiet
import Derived.Lib.Hide
import Derived.Test.YtgkfhppmopmgjaaLines
import Derived.Test.YtgkfhppmopmgjaaHelps
import Derived.Deep.Cut
set_option linter.all false
namespace Go.Proofs.Ytgkfhppmopmgjaa
open Go.RowKit Pl Go.Lib Go.Shelf

theorem own_some {W : World} {B : Nat} {v : Value} {l : List Int} (h : W.ownsRow B 3 1 v l.length (l.map (Value.int .i64))) (h0 : ¬ l.length = 0) :
    ∃ g cap, v = .slice (some ⟨g, 0, none⟩) l.length cap ∧ B ≤ g ∧ g < W.heap.size ∧ (∀ k, k < l.length → W.cell? ⟨g, k, none⟩ = some (.int .i64 (l.getD k 0))) ∧ (∀ k, W.frozen? ⟨g, k, none⟩ = false) := by
  have hh := h
  obtain ⟨_, ⟨rfl, hn⟩ | ⟨g, cap, cur, rfl, hb, hblk, _⟩⟩ := h
  · exact absurd hn h0
  · refine ⟨g, cap, rfl, hb, (Array.getElem?_eq_some_iff.1 hblk).1, fun k hk => ?_, fun k => hh.frozenAt k⟩
    rw [hh.cellAt k (by omega)]
    simp [hk]
theorem eq_of_getD {a b : List Int} (hl : a.length = b.length) (h : ∀ j, j < a.length → a.getD j 0 = b.getD j 0) : a = b := by
  apply List.ext_getElem hl
  intro i h1 h2
  have := h i h1
  simpa [h1, h2] using this

set_option maxRecDepth 100000 in
set_option maxHeartbeats 4000000 in
theorem eqIntS_any {B1 B2 : Nat} {va vb : Value} {a b : List Int} (w : World) (hA : w.ownsRow B1 3 1 va a.length (a.map (Value.int .i64))) (hB : w.ownsRow B2 3 1 vb b.length (b.map (Value.int .i64))) (hn : a.length < 1000000000) (hm : b.length < 1000000000) :
    Calls Try.prog 18 #[va, vb] w fun e w' => e = .returned (.bool (decide (a = b))) ∧ RowKit.Below w.heap.size w w' := by
  by_cases hl : a.length = b.length
  · by_cases h0 : a.length = 0
    · obtain ⟨oa, ca, rfl⟩ := own_shape hA
      obtain ⟨ob, cb, rfl⟩ := own_shape hB
      have ea : a = [] := List.length_eq_zero_iff.1 h0
      have eb : b = [] := List.length_eq_zero_iff.1 (by omega)
      subst ea eb
      clear hA hB hl h0
      go_enter Try.func18, Try.ntmps18
      go_wp2_with fail
      refine wp_loop_rounds 1 ?_
      rw [rounds_succ]
      go_wp2
      go_ret
      exact ⟨rfl, by (repeat' (first | (with_reducible exact RowKit.Below.refl _ _) | (with_reducible assumption) | (with_reducible refine Below.drewN ?_ _) | (with_reducible refine below_junk0 ?_ ?_ _ _) | (with_reducible refine RowKit.Below.alloc ?_ ?_ _) | (with_reducible refine below_setRow0 ?_ ?_) | (with_reducible refine RowKit.Below.setCell ?_ ?_ _) | (with_reducible refine RowKit.Below.drew ?_) | go_size | (simp only [size_junk]; go_size) | (simp only [World.size_alloc, size_junk, size_setRow]; omega) | omega))⟩
    · obtain ⟨ga, ca, rfl, _, hga, hca, _⟩ := own_some hA h0
      obtain ⟨gb, cb, rfl, _, hgb, hcb, _⟩ := own_some hB (by omega)
      rw [← hl] at hcb ⊢
      clear hA hB
      obtain ⟨n, hN⟩ : ∃ n, n = a.length := ⟨_, rfl⟩
      have HL := Lib.hid hl; clear hl
      have HN := Lib.hid hN
      rw [← hN] at hca hcb hn h0 ⊢
      clear hN hm
      go_enter Try.func18, Try.ntmps18
      go_wp2_with fail
      go_loopw [5] (fun v5 wr => ∃ k m : Nat, k ≤ n ∧ v5 = .int .i64 k ∧ wr = w.drewN m ∧ ∀ j, j < k → a.getD j 0 = b.getD j 0)
        (fun v5 _ => n - (intOf v5).toNat)
      case atStart => exact ⟨0, 0, by omega, rfl, rfl, by omega⟩
      case round =>
        obtain ⟨k, m, hk, rfl, rfl, hj⟩ := hrel
        have HJ := Lib.hid hj; clear hj
        rcases Nat.lt_or_ge k n with hkn | hkn
        · have h1 := hca k hkn
          have h2 := hcb k hkn
          have HA := Lib.hid hca; have HB := Lib.hid hcb; clear hca hcb
          by_cases hq : a.getD k 0 = b.getD k 0
          · rw [← hq] at h2
            have HQ := Lib.hid hq; clear hq
            obtain ⟨x, hx⟩ : ∃ x, x = a.getD k 0 := ⟨_, rfl⟩
            rw [← hx] at h1 h2
            have HX := Lib.hid hx; clear hx
            go_wp2
            go_quiet (fail)
            go_wp2
            go_roundw
            case rel => exact ⟨k + 1, _, by omega, by go_num, rfl, fun j hj => by (by_cases hjk : j < k; exact HJ.out j hjk; (obtain rfl : j = k := by omega); exact HQ.out)⟩
            case measure => simp [intOf]; omega
          · have hne : ¬ a = b := fun h => hq (by rw [h])
            have HE := Lib.hid hne
            have hq1 : (a.getD k 0 == b.getD k 0) = false := by simpa using hq
            have hq2 : (a.getD k 0 != b.getD k 0) = true := by simp only [bne, hq1]; rfl
            clear hq hne
            generalize a.getD k 0 = x at *
            generalize b.getD k 0 = y at *
            go_wp2
            go_quiet (fail)
            go_wp2
            go_ret
            exact ⟨by rw [decide_eq_false HE.out]; rfl, by (repeat' (first | (with_reducible exact RowKit.Below.refl _ _) | (with_reducible assumption) | (with_reducible refine Below.drewN ?_ _) | (with_reducible refine below_junk0 ?_ ?_ _ _) | (with_reducible refine RowKit.Below.alloc ?_ ?_ _) | (with_reducible refine below_setRow0 ?_ ?_) | (with_reducible refine RowKit.Below.setCell ?_ ?_ _) | (with_reducible refine RowKit.Below.drew ?_) | go_size | (simp only [size_junk]; go_size) | (simp only [World.size_alloc, size_junk, size_setRow]; omega) | omega))⟩
        · obtain rfl : k = n := by omega
          have hab : a = b := eq_of_getD HL.out (fun j hj => HJ.out j (by have := HN.out; omega))
          have HE := Lib.hid hab
          clear hca hcb hab
          go_wp2
          go_ret
          exact ⟨by rw [decide_eq_true HE.out]; rfl, by (repeat' (first | (with_reducible exact RowKit.Below.refl _ _) | (with_reducible assumption) | (with_reducible refine Below.drewN ?_ _) | (with_reducible refine below_junk0 ?_ ?_ _ _) | (with_reducible refine RowKit.Below.alloc ?_ ?_ _) | (with_reducible refine below_setRow0 ?_ ?_) | (with_reducible refine RowKit.Below.setCell ?_ ?_ _) | (with_reducible refine RowKit.Below.drew ?_) | go_size | (simp only [size_junk]; go_size) | (simp only [World.size_alloc, size_junk, size_setRow]; omega) | omega))⟩
  · obtain ⟨oa, ca, rfl⟩ := own_shape hA
    obtain ⟨ob, cb, rfl⟩ := own_shape hB
    have hne : ¬ a = b := fun h => hl (by rw [h])
    rw [decide_eq_false hne]
    clear hA hB hne
    generalize a.length = n at *
    generalize b.length = m at *
    go_enter Try.func18, Try.ntmps18
    go_wp2
    go_ret
    exact ⟨rfl, by (repeat' (first | (with_reducible exact RowKit.Below.refl _ _) | (with_reducible assumption) | (with_reducible refine Below.drewN ?_ _) | (with_reducible refine below_junk0 ?_ ?_ _ _) | (with_reducible refine RowKit.Below.alloc ?_ ?_ _) | (with_reducible refine below_setRow0 ?_ ?_) | (with_reducible refine RowKit.Below.setCell ?_ ?_ _) | (with_reducible refine RowKit.Below.drew ?_) | go_size | (simp only [size_junk]; go_size) | (simp only [World.size_alloc, size_junk, size_setRow]; omega) | omega))⟩

/-- k, k + 1, and so on: n of them. -/
def upL (k : Int) (n : Nat) : List Int := (List.range n).map fun (i : Nat) => k + (i : Int)
theorem upL_length (k : Int) (n : Nat) : (upL k n).length = n := by simp [upL]
/-- The first j of l marked. -/
def mkL (l : List Int) (k : Int) (j : Nat) : List Int := upL k j ++ l.drop j
theorem mkL_zero (l : List Int) (k : Int) : mkL l k 0 = l := by simp [mkL, upL]
theorem mkL_all (l : List Int) (k : Int) : mkL l k l.length = upL k l.length := by simp [mkL]
theorem mkL_length {l : List Int} (k : Int) {j : Nat} (h : j ≤ l.length) : (mkL l k j).length = l.length := by simp [mkL, upL]; omega
theorem mkL_succ {l : List Int} (k : Int) {j : Nat} (h : j < l.length) : mkL l k (j + 1) = (mkL l k j).set j (k + (j : Int)) := by
  unfold mkL upL
  rw [List.range_succ, List.map_append]
  rw [List.set_append_right _ _ (by simp)]
  simp
  rw [List.drop_eq_getElem_cons h, List.set_cons_zero]
set_option maxRecDepth 100000 in
set_option maxHeartbeats 4000000 in
theorem markIntS_any {B : Nat} {v : Value} {l : List Int} (k : Int) (w : World) (hA : w.ownsRow B 3 1 v l.length (l.map (Value.int .i64))) (hn : l.length < 1000000000) (hk : 0 ≤ k ∧ k ≤ 1000000000) (hB : B ≤ w.heap.size) :
    Calls Try.prog 19 #[v, .int .i64 k] w fun e w' => e = .returned (.int .i64 (k + (l.length : Int))) ∧ w'.ownsRow B 3 1 v (upL k l.length).length ((upL k l.length).map (Value.int .i64)) ∧ RowKit.Below B w w' := by
  by_cases h0 : l.length = 0
  · have e0 : l = [] := List.length_eq_zero_iff.1 h0
    subst e0
    obtain ⟨oa, ca, rfl⟩ := own_shape hA
    have HA := Lib.hid hA; clear hA h0
    go_enter Try.func19, Try.ntmps19
    go_wp2_with fail
    refine wp_loop_rounds 1 ?_
    rw [rounds_succ]
    go_wp2
    go_ret
    exact ⟨by simp, HA.out, by (repeat' (first | (with_reducible exact RowKit.Below.refl _ _) | (with_reducible assumption) | (with_reducible refine Below.drewN ?_ _) | (with_reducible refine below_junk0 ?_ ?_ _ _) | (with_reducible refine RowKit.Below.alloc ?_ ?_ _) | (with_reducible refine below_setRow0 ?_ ?_) | (with_reducible refine RowKit.Below.setCell ?_ ?_ _) | (with_reducible refine RowKit.Below.drew ?_) | go_size | (simp only [size_junk]; go_size) | (simp only [World.size_alloc, size_junk, size_setRow]; omega) | omega))⟩
  · obtain ⟨g, cap, rfl, hBg, hg, _, _⟩ := own_some hA h0
    have HA := Lib.hid hA; clear hA
    obtain ⟨n, hN⟩ : ∃ n, n = l.length := ⟨_, rfl⟩
    rw [← hN] at hn h0 ⊢
    have HN := Lib.hid hN; clear hN
    go_enter Try.func19, Try.ntmps19
    go_wp2_with fail
    go_loopw [1, 5] (fun v1 v5 wr => ∃ j : Nat, j ≤ n ∧ v5 = .int .i64 j ∧ v1 = .int .i64 (k + (j : Int)) ∧ wr.ownsRow B 3 1 (.slice (some ⟨g, 0, none⟩) n cap) n ((mkL l k j).map (Value.int .i64)) ∧ RowKit.Below B w wr)
      (fun _ v5 _ => n - (intOf v5).toNat)
    case atStart => exact ⟨0, by omega, rfl, by simp, by rw [mkL_zero]; have h := HA.out; rw [← HN.out] at h; exact h, by (repeat' (first | (with_reducible exact RowKit.Below.refl _ _) | (with_reducible assumption) | (with_reducible refine Below.drewN ?_ _) | (with_reducible refine below_junk0 ?_ ?_ _ _) | (with_reducible refine RowKit.Below.alloc ?_ ?_ _) | (with_reducible refine below_setRow0 ?_ ?_) | (with_reducible refine RowKit.Below.setCell ?_ ?_ _) | (with_reducible refine RowKit.Below.drew ?_) | go_size | (simp only [size_junk]; go_size) | (simp only [World.size_alloc, size_junk, size_setRow]; omega) | omega))⟩
    case round =>
      obtain ⟨j, hj, rfl, rfl, hown, hbel⟩ := hrel
      rcases Nat.lt_or_ge j n with hjn | hjn
      · have hfz := hown.frozenAt j
        have hst := hown.stored j (.int .i64 (k + (j : Int)))
        have hce := hown.cellAt j (by omega)
        rw [show (List.map (Value.int .i64) (mkL l k j))[j]? = some (.int .i64 ((mkL l k j).getD j 0)) by (have := mkL_length (l := l) k (j := j) (by have := HN.out; omega); have := HN.out; simp [show j < (mkL l k j).length by omega])] at hce
        have HS := Lib.hid hst; clear hst
        have HO := Lib.hid hown; clear hown
        generalize (mkL l k j).getD j 0 = x at *
        have hgw : g < wr.heap.size := Nat.lt_of_lt_of_le hg hbel.size
        go_wp2
        go_roundw
        case rel =>
          refine ⟨j + 1, by omega, by go_num, by (congr 1; omega), ?_, ?_⟩
          · rw [mkL_succ k (by have := HN.out; omega), List.map_set]
            exact HS.out.1
          · exact hbel.setCell hBg _
        case measure => simp [intOf]; omega
      · obtain rfl : j = n := by omega
        have HO := Lib.hid hown; clear hown
        go_wp2
        go_ret
        refine ⟨rfl, ?_, hbel⟩
        have h := HO.out
        rw [HN.out, mkL_all, ← HN.out] at h
        rw [upL_length]
        exact h

theorem upL_getD {k : Int} {n j : Nat} (h : j < n) : (upL k n).getD j 0 = k + (j : Int) := by simp [upL, h]
set_option maxRecDepth 100000 in
set_option maxHeartbeats 4000000 in
theorem heldIntS_any {B : Nat} {v : Value} {n : Nat} (k : Int) (w : World) (hA : w.ownsRow B 3 1 v (upL k n).length ((upL k n).map (Value.int .i64))) (hn : n < 1000000000) (hk : 0 ≤ k ∧ k ≤ 1000000000) :
    Calls Try.prog 20 #[v, .int .i64 k] w fun e w' => e = .returned (.int .i64 (k + (n : Int))) ∧ RowKit.Below w.heap.size w w' := by
  by_cases h0 : n = 0
  · subst h0
    obtain ⟨oa, ca, rfl⟩ := own_shape hA
    rw [upL_length]
    clear hA
    go_enter Try.func20, Try.ntmps20
    go_wp2_with fail
    refine wp_loop_rounds 1 ?_
    rw [rounds_succ]
    go_wp2
    go_ret
    exact ⟨by simp, by (repeat' (first | (with_reducible exact RowKit.Below.refl _ _) | (with_reducible assumption) | (with_reducible refine Below.drewN ?_ _) | (with_reducible refine below_junk0 ?_ ?_ _ _) | (with_reducible refine RowKit.Below.alloc ?_ ?_ _) | (with_reducible refine below_setRow0 ?_ ?_) | (with_reducible refine RowKit.Below.setCell ?_ ?_ _) | (with_reducible refine RowKit.Below.drew ?_) | go_size | (simp only [size_junk]; go_size) | (simp only [World.size_alloc, size_junk, size_setRow]; omega) | omega))⟩
  · obtain ⟨g, cap, rfl, _, hg, hca, _⟩ := own_some hA (by rw [upL_length]; exact h0)
    rw [upL_length] at hca ⊢
    clear hA
    go_enter Try.func20, Try.ntmps20
    go_wp2_with fail
    go_loopw [1, 5] (fun v1 v5 wr => ∃ j : Nat, j ≤ n ∧ v5 = .int .i64 j ∧ v1 = .int .i64 (k + (j : Int)) ∧ wr = w)
      (fun _ v5 _ => n - (intOf v5).toNat)
    case atStart => exact ⟨0, by omega, rfl, by simp, rfl⟩
    case round =>
      obtain ⟨j, hj, rfl, rfl, rfl⟩ := hrel
      rcases Nat.lt_or_ge j n with hjn | hjn
      · have hce := hca j hjn
        rw [upL_getD hjn] at hce
        have HC := Lib.hid hca; clear hca
        go_wp2
        go_roundw
        case rel => exact ⟨j + 1, by omega, by go_num, by (congr 1; omega), by trivial⟩
        case measure => simp [intOf]; omega
      · obtain rfl : j = n := by omega
        clear hca
        go_wp2
        go_ret
        exact ⟨rfl, by (repeat' (first | (with_reducible exact RowKit.Below.refl _ _) | (with_reducible assumption) | (with_reducible refine Below.drewN ?_ _) | (with_reducible refine below_junk0 ?_ ?_ _ _) | (with_reducible refine RowKit.Below.alloc ?_ ?_ _) | (with_reducible refine below_setRow0 ?_ ?_) | (with_reducible refine RowKit.Below.setCell ?_ ?_ _) | (with_reducible refine RowKit.Below.drew ?_) | go_size | (simp only [size_junk]; go_size) | (simp only [World.size_alloc, size_junk, size_setRow]; omega) | omega))⟩
theorem eqIntS_same {B1 B2 : Nat} {va vb : Value} {a : List Int} (w : World) (hA : w.ownsRow B1 3 1 va a.length (a.map (Value.int .i64))) (hB : w.ownsRow B2 3 1 vb a.length (a.map (Value.int .i64))) (hn : a.length < 1000000000) :
    Calls Try.prog 18 #[va, vb] w fun e w' => e = .returned (.bool true) ∧ RowKit.Below w.heap.size w w' :=
  (eqIntS_any w hA hB hn hn).mono fun _ _ ⟨he, hb⟩ => ⟨by rw [he]; simp, hb⟩
end Go.Proofs.Ytgkfhppmopmgjaa
