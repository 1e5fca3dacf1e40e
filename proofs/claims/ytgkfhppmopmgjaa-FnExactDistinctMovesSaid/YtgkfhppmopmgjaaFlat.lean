/- Walks of single functions of the given Go program, printed by a program of mine; each theorem says what the function returns. -/
import Derived.Test.YtgkfhppmopmgjaaRows
import Derived.WalkKit
import Derived.WalkSpells
import Derived.WalkLawsBesides
import Derived.Handy
import Derived.Deep.QuietTactic
import Derived.BigQuiet
import Derived.Lib.Hide
import Derived.Test.YtgkfhppmopmgjaaOne
import Derived.Test.YtgkfhppmopmgjaaCmps
import Derived.Deep.Cut
set_option linter.all false
namespace Go.Proofs.Ytgkfhppmopmgjaa
open Go.RowKit Pl Go.Lib Go.Shelf

set_option maxRecDepth 100000 in
set_option maxHeartbeats 4000000 in
theorem grow_any (n : Nat) (h0 : 0 < n) (hn : n < 100000000) (w : World) : Calls Try.prog 96 #[.slice none 0 0, .int .i64 n] w fun e w' => ∃ (cap : Nat) (cur : Array Value), e = .returned (.slice (some ⟨w.heap.size, 0, none⟩) 0 cap) ∧ cap ≤ maxLen ∧ cur.size = cap ∧ w' = w.drew.alloc (.cells (cur) 3 (0, 0)) := by
  go_enter Try.func96, Try.ntmps96
  go_wp2_with (at_builtin; go_must ((with_reducible apply appendZ (n := n)); (focus with_unfolding_all exact rfl); (focus with_unfolding_all exact rfl); (focus exact h0); (focus (with_reducible omega)); (intro cap cur hge hcm hcs)))
  go_ret
  exact ⟨cap, cur, rfl, hcm, hcs, rfl⟩
theorem take4 (b : List Int) (hb : b.length = 16) (k : Nat) (hk : k < 4) : ((b.drop (4 * k)).take 4).length = 4 := by simp [hb]; omega
theorem take4_get (b : List Int) (k j : Nat) (hj : j < 4) : some (Value.int .i64 (b.getD (4 * k + j) 0)) = some (Value.int .i64 (((b.drop (4 * k)).take 4).getD j 0)) := by
  simp only [List.getD_eq_getElem?_getD, List.getElem?_take, hj, if_true, List.getElem?_drop]
theorem take_succ4 (b : List Int) (k : Nat) : b.take (4 * (k + 1)) = b.take (4 * k) ++ (b.drop (4 * k)).take 4 := by
  rw [Nat.mul_succ, List.take_add]
set_option maxRecDepth 100000 in
set_option maxHeartbeats 4000000 in
theorem concat_any (b : List Int) (hb : b.length = 16) (g h : Nat) (w : World) (hg : g < w.heap.size) (hh : h < w.heap.size) (hs : ∀ k, k < 4 → w.cell? ⟨g, k, none⟩ = some (.slice (some ⟨h, 4 * k, none⟩) 4 4))
    (hc : ∀ k, k < 16 → w.cell? ⟨h, k, none⟩ = some (.int .i64 (b.getD k 0))) :
    Calls Try.prog 91 #[.slice (some ⟨g, 0, none⟩) 4 4] w fun e w' => ∃ v, e = .returned v ∧ w'.ownsRow w.heap.size 3 1 v 16 (b.map (Value.int .i64)) ∧ Below w.heap.size w w' := by
  have HB := Lib.hid hb; clear hb
  have HS := Lib.hid hs; clear hs
  have HC := Lib.hid hc; clear hc
  go_enter Try.func91, Try.ntmps91
  go_wp2_with fail
  go_loopw [3, 11] (fun v3 v11 wr => ∃ k : Nat, k ≤ 4 ∧ v11 = .int .i64 k ∧ v3 = .int .i64 (4 * k : Nat) ∧ w = wr) (fun _ v11 _ => 4 - (intOf v11).toNat)
  case atStart => exact ⟨0, by omega, rfl, rfl, rfl⟩
  case round =>
    obtain ⟨k, hk, rfl, rfl, rfl⟩ := hrel
    rcases Nat.lt_or_ge k 4 with hk4 | hk4
    · have hsk := HS.out k hk4
      go_wp2
      go_roundw
      case rel => exact ⟨k + 1, by omega, by go_num, by go_num, by trivial⟩
      case measure => simp [intOf]; omega
    · obtain rfl : k = 4 := by omega
      go_wp2_with (go_at_call 96; refine (grow_any 16 (by omega) (by omega) _).mono ?_; rintro e w1 ⟨cap, cur, rfl, hcm, hcs, rfl⟩)
      go_loopw [6, 27] (fun v6 v27 wr => ∃ k : Nat, k ≤ 4 ∧ v27 = .int .i64 k ∧ wr.ownsRow w.heap.size 3 1 v6 (b.take (4 * k)).length ((b.take (4 * k)).map (Value.int .i64)) ∧ Below w.heap.size w wr) (fun _ v27 _ => 4 - (intOf v27).toNat)
      case atStart => exact ⟨0, by omega, rfl, ⟨by simp, .inr ⟨_, cap, cur, rfl, Nat.le_refl _, heap_new rfl, Nat.zero_le _, hcm, by simpa using hcs, by simp⟩⟩, (Below.drewN (Below.refl _ _) 1).alloc (Nat.le_refl _) _⟩
      case round =>
        clear hcm hcs
        obtain ⟨k, hk, rfl, hown, hbel⟩ := hrel
        rcases Nat.lt_or_ge k 4 with hk4 | hk4
        · have hsk : wr.cell? ⟨g, k, none⟩ = some (.slice (some ⟨h, 4 * k, none⟩) 4 4) := by rw [hbel.cell (p := ⟨g, k, none⟩) hg]; exact HS.out k hk4
          have HZ := Lib.hid (take4 b HB.out k hk4)
          have HG := Lib.hid (take4_get b k)
          have HT := Lib.hid (show (b.take (4 * k)).length ≤ 16 by have := HB.out; simp only [List.length_take]; omega)
          go_wp2_with (at_builtin; go_must ((with_reducible apply appendR (B := w.heap.size) (zs := (b.drop (4 * k)).take 4)); (focus ((repeat' (first | (with_reducible assumption) | (with_reducible apply own_junk) | (with_reducible apply World.ownsRow.alloc))); done)); (focus with_unfolding_all exact rfl); (focus with_unfolding_all exact rfl); (focus exact HZ.out); (focus (intro j hj; rw [hbel.cell (p := ⟨h, 4 * k + j, none⟩) hh]; exact (HC.out (4 * k + j) (by omega)).trans (HG.out j hj))); (focus (have := HT.out; omega)); (focus exact hbel.size); ((intro v1 w2 hown1 hb2); (have hbel1 : Below w.heap.size w w2 := Below.trans hbel hb2); (clear hb2 hown hbel))))
          go_roundw
          case rel => exact ⟨k + 1, by omega, by go_num, by rw [take_succ4]; assumption, by assumption⟩
          case measure => simp [intOf]; omega
        · obtain rfl : k = 4 := by omega
          have hfull : b.take (4 * 4) = b := List.take_of_length_le (by have := HB.out; omega)
          rw [hfull, HB.out] at hown
          go_wp2
          go_ret
          exact ⟨_, rfl, hown, hbel⟩

/-- A slice that holds the numbers of a list. -/
def FlatAt (w : World) (b : List Int) (v : Value) : Prop := ∃ g c, v = .slice (some ⟨g, 0, none⟩) 16 c ∧ g < w.heap.size ∧ ∀ k, k < 16 → w.cell? ⟨g, k, none⟩ = some (.int .i64 (b.getD k 0))
theorem FlatAt.below {w w' : World} {b : List Int} {v : Value} (h : FlatAt w b v) (hb : Below w.heap.size w w') : FlatAt w' b v := by
  obtain ⟨g, c, rfl, hg, hc⟩ := h
  exact ⟨g, c, rfl, Nat.lt_of_lt_of_le hg hb.size, fun k hk => by rw [hb.cell (p := ⟨g, k, none⟩) hg]; exact hc k hk⟩
theorem flat_of_own {w : World} {B : Nat} {b : List Int} {v : Value} (hb : b.length = 16) (h : w.ownsRow B 3 1 v 16 (b.map (Value.int .i64))) : FlatAt w b v := by
  obtain ⟨g, c, rfl, _, _, _, hg⟩ := own_addr h (by omega)
  exact ⟨g, c, rfl, hg, fun k hk => own_cell h rfl k (by omega)⟩
set_option maxRecDepth 100000 in
set_option maxHeartbeats 4000000 in
theorem flat_any (b : List Int) (hb : b.length = 16) (w : World) : Calls Try.prog 83 #[aggB b] w fun e w' => ∃ v, e = .returned v ∧ FlatAt w' b v ∧ Below w.heap.size w w' := by
  go_enter Try.func83, Try.ntmps83
  go_upto_region 1 with fail
  (refine wp_region_tail_junk 12 (by kernel_rfl) (by kernel_rfl) ?_; simp only [List.take_succ_cons, List.take_zero]; (repeat (first | fail | quiet_step (fail))); refine wpQuiet_nil ?_; intro _ hw'; obtain ⟨⟨dq, osq⟩, hw''⟩ := hw'; subst hw''; simp only [List.drop_succ_cons, List.drop_zero])
  go_wp2_with (go_at_call 91; refine (concat_any b hb _ w.heap.size _ (by ((try simp only [World.size_alloc, size_junk, size_setRow, Array.size_append]) <;> omega)) (by ((try simp only [World.size_alloc, size_junk, size_setRow, Array.size_append]) <;> omega)) (by intro k hk; exact cell_new (by ((try simp only [World.size_alloc, size_junk, size_setRow, Array.size_append]) <;> omega)) (by match k, hk with | 0, _ => rfl | 1, _ => rfl | 2, _ => rfl | 3, _ => rfl)) (fun k hk => cell_at (by (repeat' (first | (with_reducible assumption) | ((with_reducible refine heap_new ?_); (focus ((try simp only [World.size_alloc, size_junk, size_setRow, Array.size_append]) <;> omega))) | ((with_reducible refine heap_old ?_ ?_); (focus ((try simp only [World.size_alloc, size_junk, size_setRow, Array.size_append]) <;> omega))) | ((with_reducible refine heap_junk ?_ ?_); (focus ((try simp only [World.size_alloc, size_junk, size_setRow, Array.size_append]) <;> omega))) | ((with_reducible apply heap_setRow_same)) | ((with_reducible refine heap_setRow_other ?_ ?_); (focus ((try simp only [World.size_alloc, size_junk, size_setRow, Array.size_append]) <;> omega)))))) (by omega))).mono ?_; rintro e w1 ⟨v1, rfl, hown, hb1⟩)
  go_ret
  exact ⟨_, rfl, flat_of_own hb hown, Below.from0 (by (repeat' (first | (with_reducible exact RowKit.Below.refl _ _) | (with_reducible assumption) | (with_reducible refine Below.drewN ?_ _) | (with_reducible refine below_junk0 ?_ ?_ _ _) | (with_reducible refine RowKit.Below.alloc ?_ ?_ _) | (with_reducible refine below_setRow0 ?_ ?_) | (with_reducible refine RowKit.Below.setCell ?_ ?_ _) | (with_reducible refine RowKit.Below.drew ?_) | go_size | (simp only [size_junk]; go_size) | (simp only [World.size_alloc, size_junk, size_setRow]; omega) | omega))) (by ((try simp only [World.size_alloc, size_junk, size_setRow, Array.size_append]) <;> omega)) hb1⟩
end Go.Proofs.Ytgkfhppmopmgjaa
