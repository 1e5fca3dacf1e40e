/- Walks of single functions of the given Go program, printed by a program of mine; each theorem says what the function returns. -/
import Derived.Test.YtgkfhppmopmgjaaRows
import Derived.WalkKit
import Derived.WalkSpells
import Derived.WalkLawsBesides
import Derived.Handy
import Derived.Deep.QuietTactic
import Derived.BigQuiet
import Derived.Lib.Hide
import Derived.Test.YtgkfhppmopmgjaaCP
import Derived.Deep.Cut
set_option linter.all false
namespace Go.Proofs.Ytgkfhppmopmgjaa
open Go.RowKit Pl Go.Lib Go.Shelf

/-- What the operations of the region that slides both ways have told. -/
def VComm (b : List Int) (k e : Nat) : Nat → List Value → World → Prop
  | 0, us, _ => us.getD 0 undef = aggB b
  | 1, us, _ => us.getD 1 undef = .int .i64 k
  | 2, us, _ => us.getD 2 undef = .int .i64 e
  | 3, us, w => ∃ g, us.getD 3 undef = .slice (some ⟨g, 0, none⟩) 2 2 ∧ w.heap[g]? = some (Obj.cells #[.int .i64 k, .int .i64 e] 3 (0, 0))
  | 4, us, _ => us.getD 4 undef = aggB (slideB (slideB b k) e)
  | 5, us, _ => us.getD 5 undef = aggB b
  | 6, us, _ => us.getD 6 undef = .int .i64 e
  | 7, us, _ => us.getD 7 undef = .int .i64 k
  | 8, us, w => ∃ g, us.getD 8 undef = .slice (some ⟨g, 0, none⟩) 2 2 ∧ w.heap[g]? = some (Obj.cells #[.int .i64 e, .int .i64 k] 3 (0, 0))
  | 9, us, _ => us.getD 9 undef = aggB (slideB (slideB b e) k)
  | 10, us, _ => us.getD 10 undef = .bool (commB b k e)
  | _, _, _ => True
theorem getD_set_otherV {us : List Value} {i j : Nat} {v : Value} (h : j ≠ i) : (us.set i v).getD j undef = us.getD j undef := by
  simp [List.getElem?_set_ne (Ne.symm h)]
theorem VComm_keeps {b : List Int} {k e : Nat} {i : Nat} {v : Value} {us : List Value} {w w' : World} (j : Nat) (hji : j ≠ i)
    (hb : ∀ (h : Nat) (r : Obj), w.heap[h]? = some r → w'.heap[h]? = some r) (h : VComm b k e j us w) : VComm b k e j (us.set i v) w' := by
  unfold VComm at *
  split at h
  case h_4 =>
    obtain ⟨q, h1, h2⟩ := h
    exact ⟨q, by rw [getD_set_otherV hji]; exact h1, hb _ _ h2⟩
  case h_9 =>
    obtain ⟨q, h1, h2⟩ := h
    exact ⟨q, by rw [getD_set_otherV hji]; exact h1, hb _ _ h2⟩
  all_goals first | trivial | (show List.getD (us.set i v) _ undef = _; rw [getD_set_otherV hji]; exact h)
theorem below_keepsO {w w' : World} (hb : Below w.heap.size w w') (h : Nat) (r : Obj) (hh : w.heap[h]? = some r) : w'.heap[h]? = some r := by
  rw [hb.block h (Array.getElem?_eq_some_iff.1 hh).1]; exact hh
theorem list11 {α : Type} (l : List α) (h : l.length = 11) : ∃ a b c d e f g i j k m, l = [a, b, c, d, e, f, g, i, j, k, m] := by
  match l, h with
  | [a, b, c, d, e, f, g, i, j, k, m], _ => exact ⟨a, b, c, d, e, f, g, i, j, k, m, rfl⟩

set_option maxRecDepth 100000 in
set_option maxHeartbeats 4000000 in
theorem implCP_any (b : List Int) (hb : b.length = 16) (w : World) : Calls Try.prog 22 #[aggB b] w (RetPairs (pairsOfB b) (okB b) w.heap.size w) := by
  unfold pairsOfB
  cases hok : okB b with
  | false =>
    go_enter Try.func22, Try.ntmps22
    go_wp2_with (first | ((with_reducible apply loadB (n := 16) (ty := 28) Try.underlying28); (focus with_unfolding_all exact rfl); (focus ((repeat' (first | (with_reducible assumption) | ((with_reducible refine heap_new ?_); (focus (first | (simp only [World.size_alloc, size_junk, size_setRow, Array.size_append]; done) | (simp only [World.size_alloc, size_junk, size_setRow, Array.size_append]; omega) | omega))) | ((with_reducible refine heap_old ?_ ?_); (focus (first | (simp only [World.size_alloc, size_junk, size_setRow, Array.size_append]; done) | (simp only [World.size_alloc, size_junk, size_setRow, Array.size_append]; omega) | omega))) | ((with_reducible refine heap_junk ?_ ?_); (focus (first | (simp only [World.size_alloc, size_junk, size_setRow, Array.size_append]; done) | (simp only [World.size_alloc, size_junk, size_setRow, Array.size_append]; omega) | omega))) | ((with_reducible apply heap_setRow_same)) | ((with_reducible refine heap_setRow_other ?_ ?_); (focus (first | (simp only [World.size_alloc, size_junk, size_setRow, Array.size_append]; done) | (simp only [World.size_alloc, size_junk, size_setRow, Array.size_append]; omega) | omega))))); done)); (focus rfl); (focus kernel_rfl); (focus (first | (with_reducible assumption) | (with_reducible rfl) | (simp only [slideB_length, putL_length, rowOut_length, lineB_length, madeB_length, *]; done)))) | (go_at_call 36; refine (IsBoard_list b hb _).mono ?_; rintro e w1 ⟨rfl, hb1⟩; obtain ⟨_, _, rfl⟩ := junk_of_below hb1; clear hb1))
    go_ret2
    exact ⟨_, rfl, ownP_nil _ _, by (repeat' (first | (with_reducible exact RowKit.Below.refl _ _) | (with_reducible assumption) | (with_reducible refine Below.drewN ?_ _) | (with_reducible refine below_junk0 ?_ ?_ _ _) | (with_reducible refine RowKit.Below.alloc ?_ ?_ _) | (with_reducible refine below_setRow0 ?_ ?_) | (with_reducible refine RowKit.Below.setCell ?_ ?_ _) | (with_reducible refine RowKit.Below.drew ?_) | go_size | (simp only [size_junk]; go_size) | (simp only [World.size_alloc, size_junk, size_setRow]; omega) | omega))⟩
  | true =>
    have ok : okL b := (okB_iff b).1 hok
    simp only [if_true]
    go_enter Try.func22, Try.ntmps22
    go_wp2_with (first | ((with_reducible apply loadB (n := 16) (ty := 28) Try.underlying28); (focus with_unfolding_all exact rfl); (focus ((repeat' (first | (with_reducible assumption) | ((with_reducible refine heap_new ?_); (focus (first | (simp only [World.size_alloc, size_junk, size_setRow, Array.size_append]; done) | (simp only [World.size_alloc, size_junk, size_setRow, Array.size_append]; omega) | omega))) | ((with_reducible refine heap_old ?_ ?_); (focus (first | (simp only [World.size_alloc, size_junk, size_setRow, Array.size_append]; done) | (simp only [World.size_alloc, size_junk, size_setRow, Array.size_append]; omega) | omega))) | ((with_reducible refine heap_junk ?_ ?_); (focus (first | (simp only [World.size_alloc, size_junk, size_setRow, Array.size_append]; done) | (simp only [World.size_alloc, size_junk, size_setRow, Array.size_append]; omega) | omega))) | ((with_reducible apply heap_setRow_same)) | ((with_reducible refine heap_setRow_other ?_ ?_); (focus (first | (simp only [World.size_alloc, size_junk, size_setRow, Array.size_append]; done) | (simp only [World.size_alloc, size_junk, size_setRow, Array.size_append]; omega) | omega))))); done)); (focus rfl); (focus kernel_rfl); (focus (first | (with_reducible assumption) | (with_reducible rfl) | (simp only [slideB_length, putL_length, rowOut_length, lineB_length, madeB_length, *]; done)))) | (go_at_call 36; refine (IsBoard_list b hb _).mono ?_; rintro e w1 ⟨rfl, hb1⟩; obtain ⟨_, _, rfl⟩ := junk_of_below hb1; clear hb1))
    go_loopw [4, 11] (fun v4 v11 wr => ∃ k : Nat, k ≤ 4 ∧ v11 = .int .i64 k ∧ wr.heap[w.heap.size]? = some (.cells (cellsB b) 28 (0, 0)) ∧ OwnP wr (w.heap.size + 1) v4 (upP b k) ∧ Below w.heap.size w wr ∧ w.heap.size + 1 ≤ wr.heap.size)
      (fun _ v11 _ => 4 - (intOf v11).toNat)
    case atStart => exact ⟨0, by omega, rfl, by (repeat' (first | (with_reducible assumption) | ((with_reducible refine heap_new ?_); (focus (first | (simp only [World.size_alloc, size_junk, size_setRow, Array.size_append]; done) | (simp only [World.size_alloc, size_junk, size_setRow, Array.size_append]; omega) | omega))) | ((with_reducible refine heap_old ?_ ?_); (focus (first | (simp only [World.size_alloc, size_junk, size_setRow, Array.size_append]; done) | (simp only [World.size_alloc, size_junk, size_setRow, Array.size_append]; omega) | omega))) | ((with_reducible refine heap_junk ?_ ?_); (focus (first | (simp only [World.size_alloc, size_junk, size_setRow, Array.size_append]; done) | (simp only [World.size_alloc, size_junk, size_setRow, Array.size_append]; omega) | omega))) | ((with_reducible apply heap_setRow_same)) | ((with_reducible refine heap_setRow_other ?_ ?_); (focus (first | (simp only [World.size_alloc, size_junk, size_setRow, Array.size_append]; done) | (simp only [World.size_alloc, size_junk, size_setRow, Array.size_append]; omega) | omega))))), ⟨0, rfl, own_empty (by (first | (simp only [World.size_alloc, size_junk, size_setRow, Array.size_append]; done) | (simp only [World.size_alloc, size_junk, size_setRow, Array.size_append]; omega) | omega)) (by (repeat' (first | (with_reducible assumption) | ((with_reducible refine heap_new ?_); (focus (first | (simp only [World.size_alloc, size_junk, size_setRow, Array.size_append]; done) | (simp only [World.size_alloc, size_junk, size_setRow, Array.size_append]; omega) | omega))) | ((with_reducible refine heap_old ?_ ?_); (focus (first | (simp only [World.size_alloc, size_junk, size_setRow, Array.size_append]; done) | (simp only [World.size_alloc, size_junk, size_setRow, Array.size_append]; omega) | omega))) | ((with_reducible refine heap_junk ?_ ?_); (focus (first | (simp only [World.size_alloc, size_junk, size_setRow, Array.size_append]; done) | (simp only [World.size_alloc, size_junk, size_setRow, Array.size_append]; omega) | omega))) | ((with_reducible apply heap_setRow_same)) | ((with_reducible refine heap_setRow_other ?_ ?_); (focus (first | (simp only [World.size_alloc, size_junk, size_setRow, Array.size_append]; done) | (simp only [World.size_alloc, size_junk, size_setRow, Array.size_append]; omega) | omega))))))⟩, by (repeat' (first | (with_reducible exact RowKit.Below.refl _ _) | (with_reducible assumption) | (with_reducible refine Below.drewN ?_ _) | (with_reducible refine below_junk0 ?_ ?_ _ _) | (with_reducible refine RowKit.Below.alloc ?_ ?_ _) | (with_reducible refine below_setRow0 ?_ ?_) | (with_reducible refine RowKit.Below.setCell ?_ ?_ _) | (with_reducible refine RowKit.Below.drew ?_) | go_size | (simp only [size_junk]; go_size) | (simp only [World.size_alloc, size_junk, size_setRow]; omega) | omega)), by (first | (simp only [World.size_alloc, size_junk, size_setRow, Array.size_append]; done) | (simp only [World.size_alloc, size_junk, size_setRow, Array.size_append]; omega) | omega)⟩
    case round =>
      obtain ⟨k, hk, rfl, hbox, hown, hbel, hlt⟩ := hrel
      rcases Nat.lt_or_ge k 4 with hk4 | hk4
      · have hdk : decide ((k : Int) < 4) = true := decide_eq_true (by omega)
        go_wp2_with fail
        clear hdk
        go_loopw [4, 6] (fun v4 v6 wr => ∃ e : Nat, k < e ∧ e ≤ 4 ∧ v6 = .int .i64 e ∧ wr.heap[w.heap.size]? = some (.cells (cellsB b) 28 (0, 0)) ∧ OwnP wr (w.heap.size + 1) v4 (upP b k ++ rowP b k e) ∧ Below w.heap.size w wr ∧ w.heap.size + 1 ≤ wr.heap.size)
          (fun _ v6 _ => 4 - (intOf v6).toNat)
        case atStart => exact ⟨k + 1, by omega, by omega, by go_num, hbox, by rw [rowP_start, List.append_nil]; exact hown, hbel, hlt⟩
        case round =>
          clear hbox hown hbel hlt
          obtain ⟨e, hke, he, rfl, hbox, hown, hbel, hlt⟩ := hrel
          rcases Nat.lt_or_ge e 4 with he4 | he4
          · have heq0 := Lib.hid (fun w => eql_board (slideB (slideB b k) e) (slideB (slideB b e) k) (by simp [slideB_length, hb]) (by simp [slideB_length, hb]) (wfL_ok (slideB_ok (slideB_ok ok _) _)) (wfL_ok (slideB_ok (slideB_ok ok _) _)) w)
            cases hcm : commB b k e with
            | true =>
              have HM := Hb.mk hcm; clear hcm
              have hde : decide ((e : Int) < 4) = true := decide_eq_true (by omega)
              go_upto_region 10 with fail
              clear hde
              refine wp_region_steps [some 20, some 21, some 22, some 23, some 24, some 25, some 26, some 27, some 28, some 29, some 30] (VComm b k e) (fun w' => Below wr.heap.size wr w') (by kernel_rfl) (by kernel_rfl) (by kernel_rfl) (Below.drewN (Below.refl _ _) 1) ?_ ?_
              · intro i o ho us w' K hul hw hdep hK
                obtain ⟨u0, u1, u2, u3, u4, u5, u6, u7, u8, u9, u10, rfl⟩ := list11 us hul
                have hbw : w'.heap[w.heap.size]? = some (.cells (cellsB b) 28 (0, 0)) := by rw [hw.block _ (by omega)]; exact hbox
                match i with
                | 0 =>
                  cases ho
                  clear hdep
                  simp only [putAll, Act.put, List.setIfInBounds_toArray, List.set_cons_zero, List.set_cons_succ] at hK ⊢
                  go_wp2_with ((with_reducible apply loadB (n := 16) (ty := 28) Try.underlying28); (focus with_unfolding_all exact rfl); (focus ((repeat' (first | (with_reducible assumption) | ((with_reducible refine heap_new ?_); (focus (first | (simp only [World.size_alloc, size_junk, size_setRow, Array.size_append]; done) | (simp only [World.size_alloc, size_junk, size_setRow, Array.size_append]; omega) | omega))) | ((with_reducible refine heap_old ?_ ?_); (focus (first | (simp only [World.size_alloc, size_junk, size_setRow, Array.size_append]; done) | (simp only [World.size_alloc, size_junk, size_setRow, Array.size_append]; omega) | omega))) | ((with_reducible refine heap_junk ?_ ?_); (focus (first | (simp only [World.size_alloc, size_junk, size_setRow, Array.size_append]; done) | (simp only [World.size_alloc, size_junk, size_setRow, Array.size_append]; omega) | omega))) | ((with_reducible apply heap_setRow_same)) | ((with_reducible refine heap_setRow_other ?_ ?_); (focus (first | (simp only [World.size_alloc, size_junk, size_setRow, Array.size_append]; done) | (simp only [World.size_alloc, size_junk, size_setRow, Array.size_append]; omega) | omega))))); done)); (focus rfl); (focus kernel_rfl); (focus (first | (with_reducible assumption) | (with_reducible rfl) | (simp only [slideB_length, putL_length, rowOut_length, lineB_length, madeB_length, *]; done))))
                  exact hK _ _ rfl (fun j oj hji _ _ h => VComm_keeps j hji (fun _ _ h => h) h) hw
                | 1 =>
                  cases ho
                  clear hdep
                  simp only [putAll, Act.put, List.setIfInBounds_toArray, List.set_cons_zero, List.set_cons_succ] at hK ⊢
                  go_wp2
                  exact hK _ _ rfl (fun j oj hji _ _ h => VComm_keeps j hji (fun _ _ h => h) h) hw
                | 2 =>
                  cases ho
                  clear hdep
                  simp only [putAll, Act.put, List.setIfInBounds_toArray, List.set_cons_zero, List.set_cons_succ] at hK ⊢
                  go_wp2
                  exact hK _ _ rfl (fun j oj hji _ _ h => VComm_keeps j hji (fun _ _ h => h) h) hw
                | 3 =>
                  cases ho
                  have d1 : VComm b k e 1 _ w' := hdep { on := 1, ground := Ground.data } (by simp) rfl
                  have d1 : u1 = _ := d1
                  subst d1
                  have d2 : VComm b k e 2 _ w' := hdep { on := 2, ground := Ground.data } (by simp) rfl
                  have d2 : u2 = _ := d2
                  subst d2
                  clear hdep
                  simp only [putAll, Act.put, List.setIfInBounds_toArray, List.set_cons_zero, List.set_cons_succ] at hK ⊢
                  go_wp2
                  exact hK _ _ ⟨_, rfl, heap_new rfl⟩ (fun j oj hji _ _ h => VComm_keeps j hji (below_keepsO ((Below.refl _ _).alloc (Nat.le_refl _) _)) h) (hw.alloc hw.size _)
                | 4 =>
                  cases ho
                  have d0 : VComm b k e 0 _ w' := hdep { on := 0, ground := Ground.data } (by simp) rfl
                  have d0 : u0 = _ := d0
                  subst d0
                  have d3 : VComm b k e 3 _ w' := hdep { on := 3, ground := Ground.data } (by simp) rfl
                  obtain ⟨g3, d3, hg3⟩ := d3
                  have d3 : u3 = _ := d3
                  subst d3
                  clear hdep
                  simp only [putAll, Act.put, List.setIfInBounds_toArray, List.set_cons_zero, List.set_cons_succ] at hK ⊢
                  go_wp2_with (go_at_call 43; refine (slides_two b hb ok k e (by omega) (by omega) g3 _ _ hg3).mono ?_; rintro e' w1 ⟨rfl, hb1⟩)
                  exact hK _ _ rfl (fun j oj hji _ _ h => VComm_keeps j hji (below_keepsO hb1) h) (hw.trans (hb1.mono hw.size))
                | 5 =>
                  cases ho
                  clear hdep
                  simp only [putAll, Act.put, List.setIfInBounds_toArray, List.set_cons_zero, List.set_cons_succ] at hK ⊢
                  go_wp2_with ((with_reducible apply loadB (n := 16) (ty := 28) Try.underlying28); (focus with_unfolding_all exact rfl); (focus ((repeat' (first | (with_reducible assumption) | ((with_reducible refine heap_new ?_); (focus (first | (simp only [World.size_alloc, size_junk, size_setRow, Array.size_append]; done) | (simp only [World.size_alloc, size_junk, size_setRow, Array.size_append]; omega) | omega))) | ((with_reducible refine heap_old ?_ ?_); (focus (first | (simp only [World.size_alloc, size_junk, size_setRow, Array.size_append]; done) | (simp only [World.size_alloc, size_junk, size_setRow, Array.size_append]; omega) | omega))) | ((with_reducible refine heap_junk ?_ ?_); (focus (first | (simp only [World.size_alloc, size_junk, size_setRow, Array.size_append]; done) | (simp only [World.size_alloc, size_junk, size_setRow, Array.size_append]; omega) | omega))) | ((with_reducible apply heap_setRow_same)) | ((with_reducible refine heap_setRow_other ?_ ?_); (focus (first | (simp only [World.size_alloc, size_junk, size_setRow, Array.size_append]; done) | (simp only [World.size_alloc, size_junk, size_setRow, Array.size_append]; omega) | omega))))); done)); (focus rfl); (focus kernel_rfl); (focus (first | (with_reducible assumption) | (with_reducible rfl) | (simp only [slideB_length, putL_length, rowOut_length, lineB_length, madeB_length, *]; done))))
                  exact hK _ _ rfl (fun j oj hji _ _ h => VComm_keeps j hji (fun _ _ h => h) h) hw
                | 6 =>
                  cases ho
                  clear hdep
                  simp only [putAll, Act.put, List.setIfInBounds_toArray, List.set_cons_zero, List.set_cons_succ] at hK ⊢
                  go_wp2
                  exact hK _ _ rfl (fun j oj hji _ _ h => VComm_keeps j hji (fun _ _ h => h) h) hw
                | 7 =>
                  cases ho
                  clear hdep
                  simp only [putAll, Act.put, List.setIfInBounds_toArray, List.set_cons_zero, List.set_cons_succ] at hK ⊢
                  go_wp2
                  exact hK _ _ rfl (fun j oj hji _ _ h => VComm_keeps j hji (fun _ _ h => h) h) hw
                | 8 =>
                  cases ho
                  have d6 : VComm b k e 6 _ w' := hdep { on := 6, ground := Ground.data } (by simp) rfl
                  have d6 : u6 = _ := d6
                  subst d6
                  have d7 : VComm b k e 7 _ w' := hdep { on := 7, ground := Ground.data } (by simp) rfl
                  have d7 : u7 = _ := d7
                  subst d7
                  clear hdep
                  simp only [putAll, Act.put, List.setIfInBounds_toArray, List.set_cons_zero, List.set_cons_succ] at hK ⊢
                  go_wp2
                  exact hK _ _ ⟨_, rfl, heap_new rfl⟩ (fun j oj hji _ _ h => VComm_keeps j hji (below_keepsO ((Below.refl _ _).alloc (Nat.le_refl _) _)) h) (hw.alloc hw.size _)
                | 9 =>
                  cases ho
                  have d5 : VComm b k e 5 _ w' := hdep { on := 5, ground := Ground.data } (by simp) rfl
                  have d5 : u5 = _ := d5
                  subst d5
                  have d8 : VComm b k e 8 _ w' := hdep { on := 8, ground := Ground.data } (by simp) rfl
                  obtain ⟨g8, d8, hg8⟩ := d8
                  have d8 : u8 = _ := d8
                  subst d8
                  clear hdep
                  simp only [putAll, Act.put, List.setIfInBounds_toArray, List.set_cons_zero, List.set_cons_succ] at hK ⊢
                  go_wp2_with (go_at_call 43; refine (slides_two b hb ok e k (by omega) (by omega) g8 _ _ hg8).mono ?_; rintro e' w1 ⟨rfl, hb1⟩)
                  exact hK _ _ rfl (fun j oj hji _ _ h => VComm_keeps j hji (below_keepsO hb1) h) (hw.trans (hb1.mono hw.size))
                | 10 =>
                  cases ho
                  have d4 : VComm b k e 4 _ w' := hdep { on := 4, ground := Ground.data } (by simp) rfl
                  have d4 : u4 = _ := d4
                  subst d4
                  have d9 : VComm b k e 9 _ w' := hdep { on := 9, ground := Ground.data } (by simp) rfl
                  have d9 : u9 = _ := d9
                  subst d9
                  clear hdep
                  simp only [putAll, Act.put, List.setIfInBounds_toArray, List.set_cons_zero, List.set_cons_succ] at hK ⊢
                  have heq := heq0.out
                  go_wp2
                  exact hK _ _ rfl (fun j oj hji _ _ h => VComm_keeps j hji (fun _ _ h => h) h) hw
                | i + 11 => simp at ho
              intro us w' hul hw hv
              obtain ⟨u0, u1, u2, u3, u4, u5, u6, u7, u8, u9, u10, rfl⟩ := list11 us hul
              have d10 : u10 = _ := hv 10 (by decide)
              rw [HM.out] at d10
              subst d10
              have hbw : w'.heap[w.heap.size]? = some (.cells (cellsB b) 28 (0, 0)) := by rw [hw.block _ (by omega)]; exact hbox
              have hown' : OwnP w' (w.heap.size + 1) _ (upP b k ++ rowP b k e) := ownP_below hown hw (Nat.le_refl _)
              have hbel' : Below w.heap.size w w' := Below.from0 hbel (by omega) hw
              have hlt' := Nat.le_trans hlt hw.size
              clear hv hbox hown hbel hlt hw
              simp only [putAll, Act.put, List.setIfInBounds_toArray, List.set_cons_zero, List.set_cons_succ]
              go_wp2_with (at_builtin; go_must ((with_reducible apply appendP (B := w.heap.size + 1)); (focus ((repeat' (first | (with_reducible assumption) | (with_reducible apply ownP_junk) | (with_reducible apply ownP_alloc))); done)); (focus with_unfolding_all exact rfl); (focus with_unfolding_all exact rfl); (focus ((repeat' (first | (with_reducible assumption) | ((with_reducible refine heap_new ?_); (focus (first | (simp only [World.size_alloc, size_junk, size_setRow, Array.size_append]; done) | (simp only [World.size_alloc, size_junk, size_setRow, Array.size_append]; omega) | omega))) | ((with_reducible refine heap_old ?_ ?_); (focus (first | (simp only [World.size_alloc, size_junk, size_setRow, Array.size_append]; done) | (simp only [World.size_alloc, size_junk, size_setRow, Array.size_append]; omega) | omega))) | ((with_reducible refine heap_junk ?_ ?_); (focus (first | (simp only [World.size_alloc, size_junk, size_setRow, Array.size_append]; done) | (simp only [World.size_alloc, size_junk, size_setRow, Array.size_append]; omega) | omega))) | ((with_reducible apply heap_setRow_same)) | ((with_reducible refine heap_setRow_other ?_ ?_); (focus (first | (simp only [World.size_alloc, size_junk, size_setRow, Array.size_append]; done) | (simp only [World.size_alloc, size_junk, size_setRow, Array.size_append]; omega) | omega))))); done)); (focus (have := upP_len b k; have := rowP_len b k e; simp only [List.length_append]; omega)); (focus (first | (simp only [World.size_alloc, size_junk, size_setRow, Array.size_append]; done) | (simp only [World.size_alloc, size_junk, size_setRow, Array.size_append]; omega) | omega)); ((intro v1 w2 hown1 hb2); (have hbox1 : w2.heap[w.heap.size]? = some (.cells (cellsB b) 28 (0, 0)) := (hb2.block _ (Nat.lt_succ_self _)).trans (by (repeat' (first | (with_reducible assumption) | ((with_reducible refine heap_new ?_); (focus (first | (simp only [World.size_alloc, size_junk, size_setRow, Array.size_append]; done) | (simp only [World.size_alloc, size_junk, size_setRow, Array.size_append]; omega) | omega))) | ((with_reducible refine heap_old ?_ ?_); (focus (first | (simp only [World.size_alloc, size_junk, size_setRow, Array.size_append]; done) | (simp only [World.size_alloc, size_junk, size_setRow, Array.size_append]; omega) | omega))) | ((with_reducible refine heap_junk ?_ ?_); (focus (first | (simp only [World.size_alloc, size_junk, size_setRow, Array.size_append]; done) | (simp only [World.size_alloc, size_junk, size_setRow, Array.size_append]; omega) | omega))) | ((with_reducible apply heap_setRow_same)) | ((with_reducible refine heap_setRow_other ?_ ?_); (focus (first | (simp only [World.size_alloc, size_junk, size_setRow, Array.size_append]; done) | (simp only [World.size_alloc, size_junk, size_setRow, Array.size_append]; omega) | omega))))))); (have hbel1 : Below w.heap.size w w2 := Below.trans (by (repeat' (first | (with_reducible exact RowKit.Below.refl _ _) | (with_reducible assumption) | (with_reducible refine Below.drewN ?_ _) | (with_reducible refine below_junk0 ?_ ?_ _ _) | (with_reducible refine RowKit.Below.alloc ?_ ?_ _) | (with_reducible refine below_setRow0 ?_ ?_) | (with_reducible refine RowKit.Below.setCell ?_ ?_ _) | (with_reducible refine RowKit.Below.drew ?_) | go_size | (simp only [size_junk]; go_size) | (simp only [World.size_alloc, size_junk, size_setRow]; omega) | omega))) (hb2.mono (by omega))); (have hlt1 : w.heap.size + 1 ≤ w2.heap.size := Nat.le_trans (by (first | (simp only [World.size_alloc, size_junk, size_setRow, Array.size_append]; done) | (simp only [World.size_alloc, size_junk, size_setRow, Array.size_append]; omega) | omega)) hb2.size); (clear hb2 hbw hown' hbel' hlt'))))
              go_roundw
              case rel => exact ⟨e + 1, by omega, by omega, by go_num, by assumption, by rw [rowP_hit hke HM.out, ← List.append_assoc]; assumption, by assumption, by assumption⟩
              case measure => simp [intOf]; omega
            | false =>
              have HM := Hb.mk hcm; clear hcm
              have hde : decide ((e : Int) < 4) = true := decide_eq_true (by omega)
              go_upto_region 10 with fail
              clear hde
              refine wp_region_steps [some 20, some 21, some 22, some 23, some 24, some 25, some 26, some 27, some 28, some 29, some 30] (VComm b k e) (fun w' => Below wr.heap.size wr w') (by kernel_rfl) (by kernel_rfl) (by kernel_rfl) (Below.drewN (Below.refl _ _) 1) ?_ ?_
              · intro i o ho us w' K hul hw hdep hK
                obtain ⟨u0, u1, u2, u3, u4, u5, u6, u7, u8, u9, u10, rfl⟩ := list11 us hul
                have hbw : w'.heap[w.heap.size]? = some (.cells (cellsB b) 28 (0, 0)) := by rw [hw.block _ (by omega)]; exact hbox
                match i with
                | 0 =>
                  cases ho
                  clear hdep
                  simp only [putAll, Act.put, List.setIfInBounds_toArray, List.set_cons_zero, List.set_cons_succ] at hK ⊢
                  go_wp2_with ((with_reducible apply loadB (n := 16) (ty := 28) Try.underlying28); (focus with_unfolding_all exact rfl); (focus ((repeat' (first | (with_reducible assumption) | ((with_reducible refine heap_new ?_); (focus (first | (simp only [World.size_alloc, size_junk, size_setRow, Array.size_append]; done) | (simp only [World.size_alloc, size_junk, size_setRow, Array.size_append]; omega) | omega))) | ((with_reducible refine heap_old ?_ ?_); (focus (first | (simp only [World.size_alloc, size_junk, size_setRow, Array.size_append]; done) | (simp only [World.size_alloc, size_junk, size_setRow, Array.size_append]; omega) | omega))) | ((with_reducible refine heap_junk ?_ ?_); (focus (first | (simp only [World.size_alloc, size_junk, size_setRow, Array.size_append]; done) | (simp only [World.size_alloc, size_junk, size_setRow, Array.size_append]; omega) | omega))) | ((with_reducible apply heap_setRow_same)) | ((with_reducible refine heap_setRow_other ?_ ?_); (focus (first | (simp only [World.size_alloc, size_junk, size_setRow, Array.size_append]; done) | (simp only [World.size_alloc, size_junk, size_setRow, Array.size_append]; omega) | omega))))); done)); (focus rfl); (focus kernel_rfl); (focus (first | (with_reducible assumption) | (with_reducible rfl) | (simp only [slideB_length, putL_length, rowOut_length, lineB_length, madeB_length, *]; done))))
                  exact hK _ _ rfl (fun j oj hji _ _ h => VComm_keeps j hji (fun _ _ h => h) h) hw
                | 1 =>
                  cases ho
                  clear hdep
                  simp only [putAll, Act.put, List.setIfInBounds_toArray, List.set_cons_zero, List.set_cons_succ] at hK ⊢
                  go_wp2
                  exact hK _ _ rfl (fun j oj hji _ _ h => VComm_keeps j hji (fun _ _ h => h) h) hw
                | 2 =>
                  cases ho
                  clear hdep
                  simp only [putAll, Act.put, List.setIfInBounds_toArray, List.set_cons_zero, List.set_cons_succ] at hK ⊢
                  go_wp2
                  exact hK _ _ rfl (fun j oj hji _ _ h => VComm_keeps j hji (fun _ _ h => h) h) hw
                | 3 =>
                  cases ho
                  have d1 : VComm b k e 1 _ w' := hdep { on := 1, ground := Ground.data } (by simp) rfl
                  have d1 : u1 = _ := d1
                  subst d1
                  have d2 : VComm b k e 2 _ w' := hdep { on := 2, ground := Ground.data } (by simp) rfl
                  have d2 : u2 = _ := d2
                  subst d2
                  clear hdep
                  simp only [putAll, Act.put, List.setIfInBounds_toArray, List.set_cons_zero, List.set_cons_succ] at hK ⊢
                  go_wp2
                  exact hK _ _ ⟨_, rfl, heap_new rfl⟩ (fun j oj hji _ _ h => VComm_keeps j hji (below_keepsO ((Below.refl _ _).alloc (Nat.le_refl _) _)) h) (hw.alloc hw.size _)
                | 4 =>
                  cases ho
                  have d0 : VComm b k e 0 _ w' := hdep { on := 0, ground := Ground.data } (by simp) rfl
                  have d0 : u0 = _ := d0
                  subst d0
                  have d3 : VComm b k e 3 _ w' := hdep { on := 3, ground := Ground.data } (by simp) rfl
                  obtain ⟨g3, d3, hg3⟩ := d3
                  have d3 : u3 = _ := d3
                  subst d3
                  clear hdep
                  simp only [putAll, Act.put, List.setIfInBounds_toArray, List.set_cons_zero, List.set_cons_succ] at hK ⊢
                  go_wp2_with (go_at_call 43; refine (slides_two b hb ok k e (by omega) (by omega) g3 _ _ hg3).mono ?_; rintro e' w1 ⟨rfl, hb1⟩)
                  exact hK _ _ rfl (fun j oj hji _ _ h => VComm_keeps j hji (below_keepsO hb1) h) (hw.trans (hb1.mono hw.size))
                | 5 =>
                  cases ho
                  clear hdep
                  simp only [putAll, Act.put, List.setIfInBounds_toArray, List.set_cons_zero, List.set_cons_succ] at hK ⊢
                  go_wp2_with ((with_reducible apply loadB (n := 16) (ty := 28) Try.underlying28); (focus with_unfolding_all exact rfl); (focus ((repeat' (first | (with_reducible assumption) | ((with_reducible refine heap_new ?_); (focus (first | (simp only [World.size_alloc, size_junk, size_setRow, Array.size_append]; done) | (simp only [World.size_alloc, size_junk, size_setRow, Array.size_append]; omega) | omega))) | ((with_reducible refine heap_old ?_ ?_); (focus (first | (simp only [World.size_alloc, size_junk, size_setRow, Array.size_append]; done) | (simp only [World.size_alloc, size_junk, size_setRow, Array.size_append]; omega) | omega))) | ((with_reducible refine heap_junk ?_ ?_); (focus (first | (simp only [World.size_alloc, size_junk, size_setRow, Array.size_append]; done) | (simp only [World.size_alloc, size_junk, size_setRow, Array.size_append]; omega) | omega))) | ((with_reducible apply heap_setRow_same)) | ((with_reducible refine heap_setRow_other ?_ ?_); (focus (first | (simp only [World.size_alloc, size_junk, size_setRow, Array.size_append]; done) | (simp only [World.size_alloc, size_junk, size_setRow, Array.size_append]; omega) | omega))))); done)); (focus rfl); (focus kernel_rfl); (focus (first | (with_reducible assumption) | (with_reducible rfl) | (simp only [slideB_length, putL_length, rowOut_length, lineB_length, madeB_length, *]; done))))
                  exact hK _ _ rfl (fun j oj hji _ _ h => VComm_keeps j hji (fun _ _ h => h) h) hw
                | 6 =>
                  cases ho
                  clear hdep
                  simp only [putAll, Act.put, List.setIfInBounds_toArray, List.set_cons_zero, List.set_cons_succ] at hK ⊢
                  go_wp2
                  exact hK _ _ rfl (fun j oj hji _ _ h => VComm_keeps j hji (fun _ _ h => h) h) hw
                | 7 =>
                  cases ho
                  clear hdep
                  simp only [putAll, Act.put, List.setIfInBounds_toArray, List.set_cons_zero, List.set_cons_succ] at hK ⊢
                  go_wp2
                  exact hK _ _ rfl (fun j oj hji _ _ h => VComm_keeps j hji (fun _ _ h => h) h) hw
                | 8 =>
                  cases ho
                  have d6 : VComm b k e 6 _ w' := hdep { on := 6, ground := Ground.data } (by simp) rfl
                  have d6 : u6 = _ := d6
                  subst d6
                  have d7 : VComm b k e 7 _ w' := hdep { on := 7, ground := Ground.data } (by simp) rfl
                  have d7 : u7 = _ := d7
                  subst d7
                  clear hdep
                  simp only [putAll, Act.put, List.setIfInBounds_toArray, List.set_cons_zero, List.set_cons_succ] at hK ⊢
                  go_wp2
                  exact hK _ _ ⟨_, rfl, heap_new rfl⟩ (fun j oj hji _ _ h => VComm_keeps j hji (below_keepsO ((Below.refl _ _).alloc (Nat.le_refl _) _)) h) (hw.alloc hw.size _)
                | 9 =>
                  cases ho
                  have d5 : VComm b k e 5 _ w' := hdep { on := 5, ground := Ground.data } (by simp) rfl
                  have d5 : u5 = _ := d5
                  subst d5
                  have d8 : VComm b k e 8 _ w' := hdep { on := 8, ground := Ground.data } (by simp) rfl
                  obtain ⟨g8, d8, hg8⟩ := d8
                  have d8 : u8 = _ := d8
                  subst d8
                  clear hdep
                  simp only [putAll, Act.put, List.setIfInBounds_toArray, List.set_cons_zero, List.set_cons_succ] at hK ⊢
                  go_wp2_with (go_at_call 43; refine (slides_two b hb ok e k (by omega) (by omega) g8 _ _ hg8).mono ?_; rintro e' w1 ⟨rfl, hb1⟩)
                  exact hK _ _ rfl (fun j oj hji _ _ h => VComm_keeps j hji (below_keepsO hb1) h) (hw.trans (hb1.mono hw.size))
                | 10 =>
                  cases ho
                  have d4 : VComm b k e 4 _ w' := hdep { on := 4, ground := Ground.data } (by simp) rfl
                  have d4 : u4 = _ := d4
                  subst d4
                  have d9 : VComm b k e 9 _ w' := hdep { on := 9, ground := Ground.data } (by simp) rfl
                  have d9 : u9 = _ := d9
                  subst d9
                  clear hdep
                  simp only [putAll, Act.put, List.setIfInBounds_toArray, List.set_cons_zero, List.set_cons_succ] at hK ⊢
                  have heq := heq0.out
                  go_wp2
                  exact hK _ _ rfl (fun j oj hji _ _ h => VComm_keeps j hji (fun _ _ h => h) h) hw
                | i + 11 => simp at ho
              intro us w' hul hw hv
              obtain ⟨u0, u1, u2, u3, u4, u5, u6, u7, u8, u9, u10, rfl⟩ := list11 us hul
              have d10 : u10 = _ := hv 10 (by decide)
              rw [HM.out] at d10
              subst d10
              have hbw : w'.heap[w.heap.size]? = some (.cells (cellsB b) 28 (0, 0)) := by rw [hw.block _ (by omega)]; exact hbox
              have hown' : OwnP w' (w.heap.size + 1) _ (upP b k ++ rowP b k e) := ownP_below hown hw (Nat.le_refl _)
              have hbel' : Below w.heap.size w w' := Below.from0 hbel (by omega) hw
              have hlt' := Nat.le_trans hlt hw.size
              clear hv hbox hown hbel hlt hw
              simp only [putAll, Act.put, List.setIfInBounds_toArray, List.set_cons_zero, List.set_cons_succ]
              go_wp2
              go_roundw
              case rel => exact ⟨e + 1, by omega, by omega, by go_num, by (repeat' (first | (with_reducible assumption) | ((with_reducible refine heap_new ?_); (focus (first | (simp only [World.size_alloc, size_junk, size_setRow, Array.size_append]; done) | (simp only [World.size_alloc, size_junk, size_setRow, Array.size_append]; omega) | omega))) | ((with_reducible refine heap_old ?_ ?_); (focus (first | (simp only [World.size_alloc, size_junk, size_setRow, Array.size_append]; done) | (simp only [World.size_alloc, size_junk, size_setRow, Array.size_append]; omega) | omega))) | ((with_reducible refine heap_junk ?_ ?_); (focus (first | (simp only [World.size_alloc, size_junk, size_setRow, Array.size_append]; done) | (simp only [World.size_alloc, size_junk, size_setRow, Array.size_append]; omega) | omega))) | ((with_reducible apply heap_setRow_same)) | ((with_reducible refine heap_setRow_other ?_ ?_); (focus (first | (simp only [World.size_alloc, size_junk, size_setRow, Array.size_append]; done) | (simp only [World.size_alloc, size_junk, size_setRow, Array.size_append]; omega) | omega))))), by rw [rowP_miss HM.out]; (repeat' (first | (with_reducible assumption) | (with_reducible apply ownP_junk) | (with_reducible apply ownP_alloc))), by (repeat' (first | (with_reducible exact RowKit.Below.refl _ _) | (with_reducible assumption) | (with_reducible refine Below.drewN ?_ _) | (with_reducible refine below_junk0 ?_ ?_ _ _) | (with_reducible refine RowKit.Below.alloc ?_ ?_ _) | (with_reducible refine below_setRow0 ?_ ?_) | (with_reducible refine RowKit.Below.setCell ?_ ?_ _) | (with_reducible refine RowKit.Below.drew ?_) | go_size | (simp only [size_junk]; go_size) | (simp only [World.size_alloc, size_junk, size_setRow]; omega) | omega)), by (first | (simp only [World.size_alloc, size_junk, size_setRow, Array.size_append]; done) | (simp only [World.size_alloc, size_junk, size_setRow, Array.size_append]; omega) | omega)⟩
              case measure => simp [intOf]; omega
          · obtain rfl : e = 4 := by omega
            go_wp2
            go_roundw
            case rel => exact ⟨k + 1, by omega, by go_num, hbox, by rw [upP_succ]; exact hown, hbel, hlt⟩
            case measure => simp [intOf]; omega
      · obtain rfl : k = 4 := by omega
        go_wp2
        go_ret2
        exact ⟨_, rfl, ownP_base hown (by omega), hbel⟩
end Go.Proofs.Ytgkfhppmopmgjaa
