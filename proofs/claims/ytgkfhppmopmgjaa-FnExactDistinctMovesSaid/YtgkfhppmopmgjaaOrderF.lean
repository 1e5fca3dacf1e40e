/- Walks of single functions of the given Go program, printed by a program of mine; each theorem says what the function returns. -/
import Derived.Test.YtgkfhppmopmgjaaRows
import Derived.WalkKit
import Derived.WalkSpells
import Derived.WalkLawsBesides
import Derived.Handy
import Derived.Deep.QuietTactic
import Derived.BigQuiet
import Derived.Lib.Hide
import Derived.Test.YtgkfhppmopmgjaaFlat
import Derived.Test.YtgkfhppmopmgjaaMade
import Derived.Test.YtgkfhppmopmgjaaCP
import Derived.Deep.Cut
set_option linter.all false
namespace Go.Proofs.Ytgkfhppmopmgjaa
open Go.RowKit Pl Go.Lib Go.Shelf

/-- What the operations of the region that compares have told. -/
def VOrd (a b : List Int) : Nat → List Value → World → Prop
  | 0, us, _ => us.getD 0 undef = aggB a
  | 1, us, w => FlatAt w a (us.getD 1 undef)
  | 2, us, _ => us.getD 2 undef = aggB b
  | 3, us, w => FlatAt w b (us.getD 3 undef)
  | 4, us, _ => ∃ r : Int, us.getD 4 undef = .int .i64 r ∧ decide (r < 0) = ltL a b
  | 5, us, _ => ∃ r : Int, us.getD 5 undef = .int .i64 r ∧ decide (r < 0) = ltL a b
  | _, _, _ => True
theorem VOrd_keeps {a b : List Int} {i : Nat} {v : Value} {us : List Value} {w w' : World} (j : Nat) (hji : j ≠ i) (hb : Below w.heap.size w w') (h : VOrd a b j us w) : VOrd a b j (us.set i v) w' := by
  unfold VOrd at *
  split at h
  all_goals (try rw [getD_set_other hji])
  all_goals first | trivial | exact h | exact h.below hb
theorem list6 {α : Type} (l : List α) (h : l.length = 6) : ∃ a b c d e f, l = [a, b, c, d, e, f] := by
  match l, h with
  | [a, b, c, d, e, f], _ => exact ⟨a, b, c, d, e, f, rfl⟩
set_option maxRecDepth 100000 in
set_option maxHeartbeats 4000000 in
theorem order_any (a b : List Int) (ha : a.length = 16) (hb : b.length = 16) (w : World) : Calls Try.prog 62 #[aggB a, aggB b] w fun e w' => ∃ r : Int, e = .returned (.int .i64 r) ∧ decide (r < 0) = ltL a b ∧ Below w.heap.size w w' := by
  go_enter Try.func62, Try.ntmps62
  have hA : ((w.alloc (.cells (cellsB a) 28 (0, 0))).alloc (.cells (cellsB b) 28 (0, 0))).heap[w.heap.size]? = some (.cells (cellsB a) 28 (0, 0)) := by (repeat' (first | (with_reducible assumption) | ((with_reducible refine heap_new ?_); (focus ((try simp only [World.size_alloc, size_junk, size_setRow, Array.size_append]) <;> omega))) | ((with_reducible refine heap_old ?_ ?_); (focus ((try simp only [World.size_alloc, size_junk, size_setRow, Array.size_append]) <;> omega))) | ((with_reducible refine heap_junk ?_ ?_); (focus ((try simp only [World.size_alloc, size_junk, size_setRow, Array.size_append]) <;> omega))) | ((with_reducible apply heap_setRow_same)) | ((with_reducible refine heap_setRow_other ?_ ?_); (focus ((try simp only [World.size_alloc, size_junk, size_setRow, Array.size_append]) <;> omega)))))
  have hB : ((w.alloc (.cells (cellsB a) 28 (0, 0))).alloc (.cells (cellsB b) 28 (0, 0))).heap[w.heap.size + 1]? = some (.cells (cellsB b) 28 (0, 0)) := by (repeat' (first | (with_reducible assumption) | ((with_reducible refine heap_new ?_); (focus ((try simp only [World.size_alloc, size_junk, size_setRow, Array.size_append]) <;> omega))) | ((with_reducible refine heap_old ?_ ?_); (focus ((try simp only [World.size_alloc, size_junk, size_setRow, Array.size_append]) <;> omega))) | ((with_reducible refine heap_junk ?_ ?_); (focus ((try simp only [World.size_alloc, size_junk, size_setRow, Array.size_append]) <;> omega))) | ((with_reducible apply heap_setRow_same)) | ((with_reducible refine heap_setRow_other ?_ ?_); (focus ((try simp only [World.size_alloc, size_junk, size_setRow, Array.size_append]) <;> omega)))))
  have hS : w.heap.size + 2 ≤ ((w.alloc (.cells (cellsB a) 28 (0, 0))).alloc (.cells (cellsB b) 28 (0, 0))).heap.size := by ((try simp only [World.size_alloc, size_junk, size_setRow, Array.size_append]) <;> omega)
  have hL : Below w.heap.size w ((w.alloc (.cells (cellsB a) 28 (0, 0))).alloc (.cells (cellsB b) 28 (0, 0))) := by (repeat' (first | (with_reducible exact RowKit.Below.refl _ _) | (with_reducible assumption) | (with_reducible refine Below.drewN ?_ _) | (with_reducible refine below_junk0 ?_ ?_ _ _) | (with_reducible refine RowKit.Below.alloc ?_ ?_ _) | (with_reducible refine below_setRow0 ?_ ?_) | (with_reducible refine RowKit.Below.setCell ?_ ?_ _) | (with_reducible refine RowKit.Below.drew ?_) | go_size | (simp only [size_junk]; go_size) | (simp only [World.size_alloc, size_junk, size_setRow]; omega) | omega))
  have HA := Lib.hid hA; have HB := Lib.hid hB; have HS := Lib.hid hS; have HL := Lib.hid hL; clear hA hB hS hL
  go_upto_region 1 with fail
  refine wp_region_steps [some 5, some 6, some 7, some 8, some 9, some 4] (VOrd a b) (fun w' => Below w.heap.size w w' ∧ w'.heap[w.heap.size]? = some (.cells (cellsB a) 28 (0, 0)) ∧ w'.heap[w.heap.size + 1]? = some (.cells (cellsB b) 28 (0, 0)) ∧ w.heap.size + 2 ≤ w'.heap.size) (by kernel_rfl) (by kernel_rfl) (by kernel_rfl) ⟨Below.drewN HL.out 1, HA.out, HB.out, HS.out⟩ ?_ ?_
  · intro i o ho us w' K hul hwc hdep hK
    obtain ⟨u0, u1, u2, u3, u4, u5, rfl⟩ := list6 us hul
    obtain ⟨hw, hbox, hbox2, hsz⟩ := hwc
    match i with
    | 0 =>
      cases ho
      clear hdep
      simp only [putAll, Act.put, List.setIfInBounds_toArray, List.set_cons_zero, List.set_cons_succ] at hK ⊢
      go_wp2_with ((with_reducible apply loadB (n := 16) (ty := 28) Try.underlying28); (focus with_unfolding_all exact rfl); (focus ((repeat' (first | (with_reducible assumption) | ((with_reducible refine heap_new ?_); (focus ((try simp only [World.size_alloc, size_junk, size_setRow, Array.size_append]) <;> omega))) | ((with_reducible refine heap_old ?_ ?_); (focus ((try simp only [World.size_alloc, size_junk, size_setRow, Array.size_append]) <;> omega))) | ((with_reducible refine heap_junk ?_ ?_); (focus ((try simp only [World.size_alloc, size_junk, size_setRow, Array.size_append]) <;> omega))) | ((with_reducible apply heap_setRow_same)) | ((with_reducible refine heap_setRow_other ?_ ?_); (focus ((try simp only [World.size_alloc, size_junk, size_setRow, Array.size_append]) <;> omega))))); done)); (focus rfl); (focus kernel_rfl); (focus exact ha))
      exact hK _ _ rfl (fun j oj hji _ _ h => VOrd_keeps j hji (Below.refl _ _) h) ⟨hw, hbox, hbox2, hsz⟩
    | 1 =>
      cases ho
      have d0 : VOrd a b 0 _ w' := hdep { on := 0, ground := Ground.data } (by simp) rfl
      have d0 : u0 = _ := d0
      subst d0
      clear hdep
      simp only [putAll, Act.put, List.setIfInBounds_toArray, List.set_cons_zero, List.set_cons_succ] at hK ⊢
      go_wp2_with (go_at_call 83; refine (flat_any a ha _).mono ?_; rintro e w1 ⟨v1, rfl, hfl, hb1⟩)
      exact hK _ _ hfl (fun j oj hji _ _ h => VOrd_keeps j hji hb1 h) ⟨Below.from0 hw hw.size hb1, (hb1.block _ (by omega)).trans hbox, (hb1.block _ (by omega)).trans hbox2, Nat.le_trans hsz hb1.size⟩
    | 2 =>
      cases ho
      clear hdep
      simp only [putAll, Act.put, List.setIfInBounds_toArray, List.set_cons_zero, List.set_cons_succ] at hK ⊢
      go_wp2_with ((with_reducible apply loadB (n := 16) (ty := 28) Try.underlying28); (focus with_unfolding_all exact rfl); (focus ((repeat' (first | (with_reducible assumption) | ((with_reducible refine heap_new ?_); (focus ((try simp only [World.size_alloc, size_junk, size_setRow, Array.size_append]) <;> omega))) | ((with_reducible refine heap_old ?_ ?_); (focus ((try simp only [World.size_alloc, size_junk, size_setRow, Array.size_append]) <;> omega))) | ((with_reducible refine heap_junk ?_ ?_); (focus ((try simp only [World.size_alloc, size_junk, size_setRow, Array.size_append]) <;> omega))) | ((with_reducible apply heap_setRow_same)) | ((with_reducible refine heap_setRow_other ?_ ?_); (focus ((try simp only [World.size_alloc, size_junk, size_setRow, Array.size_append]) <;> omega))))); done)); (focus rfl); (focus kernel_rfl); (focus exact hb))
      exact hK _ _ rfl (fun j oj hji _ _ h => VOrd_keeps j hji (Below.refl _ _) h) ⟨hw, hbox, hbox2, hsz⟩
    | 3 =>
      cases ho
      have d2 : VOrd a b 2 _ w' := hdep { on := 2, ground := Ground.data } (by simp) rfl
      have d2 : u2 = _ := d2
      subst d2
      clear hdep
      simp only [putAll, Act.put, List.setIfInBounds_toArray, List.set_cons_zero, List.set_cons_succ] at hK ⊢
      go_wp2_with (go_at_call 83; refine (flat_any b hb _).mono ?_; rintro e w1 ⟨v1, rfl, hfl, hb1⟩)
      exact hK _ _ hfl (fun j oj hji _ _ h => VOrd_keeps j hji hb1 h) ⟨Below.from0 hw hw.size hb1, (hb1.block _ (by omega)).trans hbox, (hb1.block _ (by omega)).trans hbox2, Nat.le_trans hsz hb1.size⟩
    | 4 =>
      cases ho
      have d1 : VOrd a b 1 _ w' := hdep { on := 1, ground := Ground.data } (by simp) rfl
      obtain ⟨g1, c1, d1, hg1, hc1⟩ := d1
      have d1 : u1 = _ := d1
      subst d1
      have d3 : VOrd a b 3 _ w' := hdep { on := 3, ground := Ground.data } (by simp) rfl
      obtain ⟨g3, c3, d3, hg3, hc3⟩ := d3
      have d3 : u3 = _ := d3
      subst d3
      clear hdep
      simp only [putAll, Act.put, List.setIfInBounds_toArray, List.set_cons_zero, List.set_cons_succ] at hK ⊢
      have HCO := fun w => compare_any a b g1 g3 c1 c3 w (by omega) (by omega)
      rw [ha, hb] at HCO
      have HCP := Lib.hid (HCO w' hc1 hc3); clear HCO
      have HH1 := Lib.hid hc1; have HH3 := Lib.hid hc3; clear hc1 hc3
      go_wp2_with (go_at_call 82; refine (HCP.out).mono ?_; rintro e w1 ⟨r, rfl, hr, rfl⟩)
      exact hK _ _ ⟨r, rfl, hr⟩ (fun j oj hji _ _ h => VOrd_keeps j hji (Below.refl _ _) h) ⟨hw, hbox, hbox2, hsz⟩
    | 5 =>
      cases ho
      have d4 : VOrd a b 4 _ w' := hdep { on := 4, ground := Ground.data } (by simp) rfl
      obtain ⟨r, d4, hr⟩ := d4
      have d4 : u4 = _ := d4
      subst d4
      clear hdep
      simp only [putAll, Act.put, List.setIfInBounds_toArray, List.set_cons_zero, List.set_cons_succ] at hK ⊢
      have HR := Hb.mk hr; clear hr
      go_wp2
      exact hK _ _ ⟨r, rfl, HR.out⟩ (fun j oj hji _ _ h => VOrd_keeps j hji (Below.refl _ _) h) ⟨hw, hbox, hbox2, hsz⟩
    | i + 6 => simp at ho
  · intro us w' hul hwc hv
    obtain ⟨u0, u1, u2, u3, u4, u5, rfl⟩ := list6 us hul
    obtain ⟨hw, hbox, hbox2, hsz⟩ := hwc
    obtain ⟨r, d5, hr⟩ := hv 5 (by decide)
    have d5 : u5 = _ := d5
    subst d5
    clear hv
    have HR := Hb.mk hr; clear hr
    simp only [putAll, Act.put, List.setIfInBounds_toArray, List.set_cons_zero, List.set_cons_succ]
    go_wp2
    go_ret
    exact ⟨r, rfl, HR.out, hw⟩
end Go.Proofs.Ytgkfhppmopmgjaa
