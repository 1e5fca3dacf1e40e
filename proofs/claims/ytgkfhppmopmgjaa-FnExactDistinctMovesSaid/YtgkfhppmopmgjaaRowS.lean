/- Walks of single functions of the given Go program, printed by a program of mine; each theorem says what the function returns. -/
import Derived.Test.YtgkfhppmopmgjaaRows
import Derived.WalkKit
import Derived.WalkSpells
import Derived.WalkLawsBesides
import Derived.Handy
import Derived.Deep.QuietTactic
import Derived.BigQuiet
import Derived.Lib.Hide
import Derived.Test.YtgkfhppmopmgjaaBase
set_option linter.all false
namespace Go.Proofs.Ytgkfhppmopmgjaa
open Go.RowKit Pl
theorem l2Worth_any (t : Int) (w : World) (h : 0 ≤ t ∧ t ≤ 17) :
    Calls Try.prog 88 #[.int .i64 t] w fun e w' => e = .returned (.int .i64 (worthI t)) ∧ w = w' := by
  go_enter Try.func88, Try.ntmps88
  go_wp2
  go_ret
  exact ⟨ret_int (worth_wrap t h), rfl⟩

abbrev Row4 (w : World) (x0 x1 x2 x3 : Int) (o0 o1 o2 o3 : Int) : World :=
  ((w.alloc (Obj.cells #[Value.int IntKind.i64 x0, Value.int IntKind.i64 x1, Value.int IntKind.i64 x2, Value.int IntKind.i64 x3] 22)).alloc
      (Obj.cells #[Value.int IntKind.i64 0, Value.int IntKind.i64 0, Value.int IntKind.i64 0, Value.int IntKind.i64 0] 22)).alloc
    (Obj.cells #[Value.int IntKind.i64 o0, Value.int IntKind.i64 o1, Value.int IntKind.i64 o2, Value.int IntKind.i64 o3] 22)

def RowSc (l : List Int) (sc : Int) (B : Nat) (w : World) (e : Ending) (w' : World) : Prop :=
  ∃ o0 o1 o2 o3 : Int, l = [o0, o1, o2, o3] ∧ e = .returned (.tuple #[.agg #[.int .i64 o0, .int .i64 o1, .int .i64 o2, .int .i64 o3], .int .i64 sc]) ∧ Below B w w'

def RowInv (x : List Int) (w : World) (v5 v6 v7 v8 : Value) (wr : World) : Prop :=
  ∃ (k : Nat) (l : List Int) (mg : Bool) (sc : Int) (m : Nat), k ≤ 4 ∧ l.length ≤ k ∧ (0 ≤ sc ∧ sc ≤ 200000 * k) ∧ (∀ x ∈ l, 0 ≤ x ∧ x ≤ 17) ∧
      foldR (x.take k) = (l, mg, sc) ∧ v8 = .int .i64 k ∧ v5 = .int .i64 l.length ∧ v6 = .int .i64 sc ∧ v7 = .bool mg ∧
      wr = (Row4 w (x.getD 0 0) (x.getD 1 0) (x.getD 2 0) (x.getD 3 0) (l.getD 0 0) (l.getD 1 0) (l.getD 2 0) (l.getD 3 0)).drewN m

set_option maxHeartbeats 4000000 in
theorem l2Row_any (x0 x1 x2 x3 : Int) (w : World) (h0 : 0 ≤ x0 ∧ x0 ≤ 17) (h1 : 0 ≤ x1 ∧ x1 ≤ 17) (h2 : 0 ≤ x2 ∧ x2 ≤ 17) (h3 : 0 ≤ x3 ∧ x3 ≤ 17) :
    Calls Try.prog 71 #[.agg #[.int .i64 x0, .int .i64 x1, .int .i64 x2, .int .i64 x3]] w (RowSc (rowOut [x0, x1, x2, x3]) (rowScore [x0, x1, x2, x3]) w.heap.size w) := by
  go_enter Try.func71, Try.ntmps71
  go_wp2
  go_loopw [5, 6, 7, 8] (fun v5 v6 v7 v8 wr => RowInv [x0, x1, x2, x3] w v5 v6 v7 v8 wr)
    (fun _ _ _ v8 _ => 4 - (intOf v8).toNat)
  case atStart => exact ⟨0, [], false, 0, 0, by omega, by simp, by omega, by simp, rfl, rfl, rfl, rfl, rfl, rfl⟩
  case round =>
    obtain ⟨k, l, mg, sc, m, hk, hl, hsc, hx, hf, rfl, rfl, rfl, rfl, rfl⟩ := hrel
    have H := Lib.hid hf; clear hf
    have HX := Lib.hid hx; clear hx
    have wr0 : IntKind.i64.wrap 0 = 0 := rfl
    have wr1 : IntKind.i64.wrap 1 = 1 := rfl
    have wr2 : IntKind.i64.wrap 2 = 2 := rfl
    have wr3 : IntKind.i64.wrap 3 = 3 := rfl
    match k, hk with
    | 0, _ =>
      match l, hl with
      | [], _ =>
        simp only [Row4, List.getD_cons_zero, List.getD_cons_succ, List.getD_nil, List.length_cons, List.length_nil]
        by_cases hz : x0 = 0
        · subst hz
          go_wp2
          go_roundw
          case rel => exact ⟨1, [], mg, sc, _, by omega, by simp, by first | omega | (have := worthI_bd (0 + 1) (by omega); omega), by first | (simp; done) | (have := HX.out; simp at this ⊢; omega), foldR_zero H.out, rfl, rfl, rfl, rfl, rfl⟩
          case measure => simp [intOf]
        · go_wp2
          go_quiet (fail)
          go_wp2
          go_roundw
          case rel => exact ⟨1, [x0], false, sc, _, by omega, by simp, by first | omega | (have := worthI_bd (x0 + 1) (by omega); omega), by first | (simp; done) | (have := HX.out; simp at this ⊢; omega), foldR_new H.out hz (.inl rfl), rfl, rfl, rfl, rfl, rfl⟩
          case measure => simp [intOf]
    | 1, _ =>
      match l, hl with
      | [], _ =>
        simp only [Row4, List.getD_cons_zero, List.getD_cons_succ, List.getD_nil, List.length_cons, List.length_nil]
        by_cases hz : x1 = 0
        · subst hz
          go_wp2
          go_roundw
          case rel => exact ⟨2, [], mg, sc, _, by omega, by simp, by first | omega | (have := worthI_bd (0 + 1) (by omega); omega), by first | (simp; done) | (have := HX.out; simp at this ⊢; omega), foldR_zero H.out, rfl, rfl, rfl, rfl, rfl⟩
          case measure => simp [intOf]
        · go_wp2
          go_quiet (fail)
          go_wp2
          go_roundw
          case rel => exact ⟨2, [x1], false, sc, _, by omega, by simp, by first | omega | (have := worthI_bd (x1 + 1) (by omega); omega), by first | (simp; done) | (have := HX.out; simp at this ⊢; omega), foldR_new H.out hz (.inl rfl), rfl, rfl, rfl, rfl, rfl⟩
          case measure => simp [intOf]
      | [a], _ =>
        simp only [Row4, List.getD_cons_zero, List.getD_cons_succ, List.getD_nil, List.length_cons, List.length_nil]
        by_cases hz : x1 = 0
        · subst hz
          go_wp2
          go_roundw
          case rel => exact ⟨2, [a], mg, sc, _, by omega, by simp, by first | omega | (have := worthI_bd (0 + 1) (by omega); omega), by first | (simp; done) | (have := HX.out; simp at this ⊢; omega), foldR_zero H.out, rfl, rfl, rfl, rfl, rfl⟩
          case measure => simp [intOf]
        · by_cases e1 : a = x1
          · subst e1
            by_cases e2 : a < 17
            · have hb := HX.out a (by simp)
              cases mg with
              | false =>
                go_wp2
                go_quiet (fail)
                go_wp2_with (go_at_call 88; refine (l2Worth_any _ _ (by omega)).mono ?_; rintro e w' ⟨rfl, rfl⟩)
                go_roundw
                case rel => exact ⟨2, [a + 1], true, sc + worthI (a + 1), _, by omega, by simp, by first | omega | (have := worthI_bd (a + 1) (by omega); omega), by first | (simp; done) | (have := HX.out; simp at this ⊢; omega), foldR_merge (p := []) H.out hz e2, rfl, rfl, by congr 1; have := worthI_bd (a + 1) (by omega); exact IntWalk.wrap64_in _ ⟨by omega, by omega⟩, rfl, rfl⟩
                case measure => simp [intOf]
              | true =>
                go_wp2
                go_quiet (fail)
                go_wp2
                go_roundw
                case rel => exact ⟨2, [a, a], false, sc, _, by omega, by simp, by first | omega | (have := worthI_bd (a + 1) (by omega); omega), by first | (simp; done) | (have := HX.out; simp at this ⊢; omega), foldR_new H.out hz (.inr (.inr (.inr rfl))), rfl, rfl, rfl, rfl, rfl⟩
                case measure => simp [intOf]
            · have hd : decide (a < 17) = false := by simpa using e2
              go_wp2
              go_quiet (fail)
              go_wp2
              go_roundw
              case rel => exact ⟨2, [a, a], false, sc, _, by omega, by simp, by first | omega | (have := worthI_bd (a + 1) (by omega); omega), by first | (simp; done) | (have := HX.out; simp at this ⊢; omega), foldR_new H.out hz (.inr (.inr (.inl (by omega)))), rfl, rfl, rfl, rfl, rfl⟩
              case measure => simp [intOf]
          · have hq : (a == x1) = false := by simpa using e1
            go_wp2
            go_quiet (fail)
            go_wp2
            go_roundw
            case rel => exact ⟨2, [a, x1], false, sc, _, by omega, by simp, by first | omega | (have := worthI_bd (x1 + 1) (by omega); omega), by first | (simp; done) | (have := HX.out; simp at this ⊢; omega), foldR_new H.out hz (.inr (.inl (by simpa using e1))), rfl, rfl, rfl, rfl, rfl⟩
            case measure => simp [intOf]
    | 2, _ =>
      match l, hl with
      | [], _ =>
        simp only [Row4, List.getD_cons_zero, List.getD_cons_succ, List.getD_nil, List.length_cons, List.length_nil]
        by_cases hz : x2 = 0
        · subst hz
          go_wp2
          go_roundw
          case rel => exact ⟨3, [], mg, sc, _, by omega, by simp, by first | omega | (have := worthI_bd (0 + 1) (by omega); omega), by first | (simp; done) | (have := HX.out; simp at this ⊢; omega), foldR_zero H.out, rfl, rfl, rfl, rfl, rfl⟩
          case measure => simp [intOf]
        · go_wp2
          go_quiet (fail)
          go_wp2
          go_roundw
          case rel => exact ⟨3, [x2], false, sc, _, by omega, by simp, by first | omega | (have := worthI_bd (x2 + 1) (by omega); omega), by first | (simp; done) | (have := HX.out; simp at this ⊢; omega), foldR_new H.out hz (.inl rfl), rfl, rfl, rfl, rfl, rfl⟩
          case measure => simp [intOf]
      | [a], _ =>
        simp only [Row4, List.getD_cons_zero, List.getD_cons_succ, List.getD_nil, List.length_cons, List.length_nil]
        by_cases hz : x2 = 0
        · subst hz
          go_wp2
          go_roundw
          case rel => exact ⟨3, [a], mg, sc, _, by omega, by simp, by first | omega | (have := worthI_bd (0 + 1) (by omega); omega), by first | (simp; done) | (have := HX.out; simp at this ⊢; omega), foldR_zero H.out, rfl, rfl, rfl, rfl, rfl⟩
          case measure => simp [intOf]
        · by_cases e1 : a = x2
          · subst e1
            by_cases e2 : a < 17
            · have hb := HX.out a (by simp)
              cases mg with
              | false =>
                go_wp2
                go_quiet (fail)
                go_wp2_with (go_at_call 88; refine (l2Worth_any _ _ (by omega)).mono ?_; rintro e w' ⟨rfl, rfl⟩)
                go_roundw
                case rel => exact ⟨3, [a + 1], true, sc + worthI (a + 1), _, by omega, by simp, by first | omega | (have := worthI_bd (a + 1) (by omega); omega), by first | (simp; done) | (have := HX.out; simp at this ⊢; omega), foldR_merge (p := []) H.out hz e2, rfl, rfl, by congr 1; have := worthI_bd (a + 1) (by omega); exact IntWalk.wrap64_in _ ⟨by omega, by omega⟩, rfl, rfl⟩
                case measure => simp [intOf]
              | true =>
                go_wp2
                go_quiet (fail)
                go_wp2
                go_roundw
                case rel => exact ⟨3, [a, a], false, sc, _, by omega, by simp, by first | omega | (have := worthI_bd (a + 1) (by omega); omega), by first | (simp; done) | (have := HX.out; simp at this ⊢; omega), foldR_new H.out hz (.inr (.inr (.inr rfl))), rfl, rfl, rfl, rfl, rfl⟩
                case measure => simp [intOf]
            · have hd : decide (a < 17) = false := by simpa using e2
              go_wp2
              go_quiet (fail)
              go_wp2
              go_roundw
              case rel => exact ⟨3, [a, a], false, sc, _, by omega, by simp, by first | omega | (have := worthI_bd (a + 1) (by omega); omega), by first | (simp; done) | (have := HX.out; simp at this ⊢; omega), foldR_new H.out hz (.inr (.inr (.inl (by omega)))), rfl, rfl, rfl, rfl, rfl⟩
              case measure => simp [intOf]
          · have hq : (a == x2) = false := by simpa using e1
            go_wp2
            go_quiet (fail)
            go_wp2
            go_roundw
            case rel => exact ⟨3, [a, x2], false, sc, _, by omega, by simp, by first | omega | (have := worthI_bd (x2 + 1) (by omega); omega), by first | (simp; done) | (have := HX.out; simp at this ⊢; omega), foldR_new H.out hz (.inr (.inl (by simpa using e1))), rfl, rfl, rfl, rfl, rfl⟩
            case measure => simp [intOf]
      | [a, b], _ =>
        simp only [Row4, List.getD_cons_zero, List.getD_cons_succ, List.getD_nil, List.length_cons, List.length_nil]
        by_cases hz : x2 = 0
        · subst hz
          go_wp2
          go_roundw
          case rel => exact ⟨3, [a, b], mg, sc, _, by omega, by simp, by first | omega | (have := worthI_bd (0 + 1) (by omega); omega), by first | (simp; done) | (have := HX.out; simp at this ⊢; omega), foldR_zero H.out, rfl, rfl, rfl, rfl, rfl⟩
          case measure => simp [intOf]
        · by_cases e1 : b = x2
          · subst e1
            by_cases e2 : b < 17
            · have hb := HX.out b (by simp)
              cases mg with
              | false =>
                go_wp2
                go_quiet (fail)
                go_wp2_with (go_at_call 88; refine (l2Worth_any _ _ (by omega)).mono ?_; rintro e w' ⟨rfl, rfl⟩)
                go_roundw
                case rel => exact ⟨3, [a, b + 1], true, sc + worthI (b + 1), _, by omega, by simp, by first | omega | (have := worthI_bd (b + 1) (by omega); omega), by first | (simp; done) | (have := HX.out; simp at this ⊢; omega), foldR_merge (p := [a]) H.out hz e2, rfl, rfl, by congr 1; have := worthI_bd (b + 1) (by omega); exact IntWalk.wrap64_in _ ⟨by omega, by omega⟩, rfl, rfl⟩
                case measure => simp [intOf]
              | true =>
                go_wp2
                go_quiet (fail)
                go_wp2
                go_roundw
                case rel => exact ⟨3, [a, b, b], false, sc, _, by omega, by simp, by first | omega | (have := worthI_bd (b + 1) (by omega); omega), by first | (simp; done) | (have := HX.out; simp at this ⊢; omega), foldR_new H.out hz (.inr (.inr (.inr rfl))), rfl, rfl, rfl, rfl, rfl⟩
                case measure => simp [intOf]
            · have hd : decide (b < 17) = false := by simpa using e2
              go_wp2
              go_quiet (fail)
              go_wp2
              go_roundw
              case rel => exact ⟨3, [a, b, b], false, sc, _, by omega, by simp, by first | omega | (have := worthI_bd (b + 1) (by omega); omega), by first | (simp; done) | (have := HX.out; simp at this ⊢; omega), foldR_new H.out hz (.inr (.inr (.inl (by omega)))), rfl, rfl, rfl, rfl, rfl⟩
              case measure => simp [intOf]
          · have hq : (b == x2) = false := by simpa using e1
            go_wp2
            go_quiet (fail)
            go_wp2
            go_roundw
            case rel => exact ⟨3, [a, b, x2], false, sc, _, by omega, by simp, by first | omega | (have := worthI_bd (x2 + 1) (by omega); omega), by first | (simp; done) | (have := HX.out; simp at this ⊢; omega), foldR_new H.out hz (.inr (.inl (by simpa using e1))), rfl, rfl, rfl, rfl, rfl⟩
            case measure => simp [intOf]
    | 3, _ =>
      match l, hl with
      | [], _ =>
        simp only [Row4, List.getD_cons_zero, List.getD_cons_succ, List.getD_nil, List.length_cons, List.length_nil]
        by_cases hz : x3 = 0
        · subst hz
          go_wp2
          go_roundw
          case rel => exact ⟨4, [], mg, sc, _, by omega, by simp, by first | omega | (have := worthI_bd (0 + 1) (by omega); omega), by first | (simp; done) | (have := HX.out; simp at this ⊢; omega), foldR_zero H.out, rfl, rfl, rfl, rfl, rfl⟩
          case measure => simp [intOf]
        · go_wp2
          go_quiet (fail)
          go_wp2
          go_roundw
          case rel => exact ⟨4, [x3], false, sc, _, by omega, by simp, by first | omega | (have := worthI_bd (x3 + 1) (by omega); omega), by first | (simp; done) | (have := HX.out; simp at this ⊢; omega), foldR_new H.out hz (.inl rfl), rfl, rfl, rfl, rfl, rfl⟩
          case measure => simp [intOf]
      | [a], _ =>
        simp only [Row4, List.getD_cons_zero, List.getD_cons_succ, List.getD_nil, List.length_cons, List.length_nil]
        by_cases hz : x3 = 0
        · subst hz
          go_wp2
          go_roundw
          case rel => exact ⟨4, [a], mg, sc, _, by omega, by simp, by first | omega | (have := worthI_bd (0 + 1) (by omega); omega), by first | (simp; done) | (have := HX.out; simp at this ⊢; omega), foldR_zero H.out, rfl, rfl, rfl, rfl, rfl⟩
          case measure => simp [intOf]
        · by_cases e1 : a = x3
          · subst e1
            by_cases e2 : a < 17
            · have hb := HX.out a (by simp)
              cases mg with
              | false =>
                go_wp2
                go_quiet (fail)
                go_wp2_with (go_at_call 88; refine (l2Worth_any _ _ (by omega)).mono ?_; rintro e w' ⟨rfl, rfl⟩)
                go_roundw
                case rel => exact ⟨4, [a + 1], true, sc + worthI (a + 1), _, by omega, by simp, by first | omega | (have := worthI_bd (a + 1) (by omega); omega), by first | (simp; done) | (have := HX.out; simp at this ⊢; omega), foldR_merge (p := []) H.out hz e2, rfl, rfl, by congr 1; have := worthI_bd (a + 1) (by omega); exact IntWalk.wrap64_in _ ⟨by omega, by omega⟩, rfl, rfl⟩
                case measure => simp [intOf]
              | true =>
                go_wp2
                go_quiet (fail)
                go_wp2
                go_roundw
                case rel => exact ⟨4, [a, a], false, sc, _, by omega, by simp, by first | omega | (have := worthI_bd (a + 1) (by omega); omega), by first | (simp; done) | (have := HX.out; simp at this ⊢; omega), foldR_new H.out hz (.inr (.inr (.inr rfl))), rfl, rfl, rfl, rfl, rfl⟩
                case measure => simp [intOf]
            · have hd : decide (a < 17) = false := by simpa using e2
              go_wp2
              go_quiet (fail)
              go_wp2
              go_roundw
              case rel => exact ⟨4, [a, a], false, sc, _, by omega, by simp, by first | omega | (have := worthI_bd (a + 1) (by omega); omega), by first | (simp; done) | (have := HX.out; simp at this ⊢; omega), foldR_new H.out hz (.inr (.inr (.inl (by omega)))), rfl, rfl, rfl, rfl, rfl⟩
              case measure => simp [intOf]
          · have hq : (a == x3) = false := by simpa using e1
            go_wp2
            go_quiet (fail)
            go_wp2
            go_roundw
            case rel => exact ⟨4, [a, x3], false, sc, _, by omega, by simp, by first | omega | (have := worthI_bd (x3 + 1) (by omega); omega), by first | (simp; done) | (have := HX.out; simp at this ⊢; omega), foldR_new H.out hz (.inr (.inl (by simpa using e1))), rfl, rfl, rfl, rfl, rfl⟩
            case measure => simp [intOf]
      | [a, b], _ =>
        simp only [Row4, List.getD_cons_zero, List.getD_cons_succ, List.getD_nil, List.length_cons, List.length_nil]
        by_cases hz : x3 = 0
        · subst hz
          go_wp2
          go_roundw
          case rel => exact ⟨4, [a, b], mg, sc, _, by omega, by simp, by first | omega | (have := worthI_bd (0 + 1) (by omega); omega), by first | (simp; done) | (have := HX.out; simp at this ⊢; omega), foldR_zero H.out, rfl, rfl, rfl, rfl, rfl⟩
          case measure => simp [intOf]
        · by_cases e1 : b = x3
          · subst e1
            by_cases e2 : b < 17
            · have hb := HX.out b (by simp)
              cases mg with
              | false =>
                go_wp2
                go_quiet (fail)
                go_wp2_with (go_at_call 88; refine (l2Worth_any _ _ (by omega)).mono ?_; rintro e w' ⟨rfl, rfl⟩)
                go_roundw
                case rel => exact ⟨4, [a, b + 1], true, sc + worthI (b + 1), _, by omega, by simp, by first | omega | (have := worthI_bd (b + 1) (by omega); omega), by first | (simp; done) | (have := HX.out; simp at this ⊢; omega), foldR_merge (p := [a]) H.out hz e2, rfl, rfl, by congr 1; have := worthI_bd (b + 1) (by omega); exact IntWalk.wrap64_in _ ⟨by omega, by omega⟩, rfl, rfl⟩
                case measure => simp [intOf]
              | true =>
                go_wp2
                go_quiet (fail)
                go_wp2
                go_roundw
                case rel => exact ⟨4, [a, b, b], false, sc, _, by omega, by simp, by first | omega | (have := worthI_bd (b + 1) (by omega); omega), by first | (simp; done) | (have := HX.out; simp at this ⊢; omega), foldR_new H.out hz (.inr (.inr (.inr rfl))), rfl, rfl, rfl, rfl, rfl⟩
                case measure => simp [intOf]
            · have hd : decide (b < 17) = false := by simpa using e2
              go_wp2
              go_quiet (fail)
              go_wp2
              go_roundw
              case rel => exact ⟨4, [a, b, b], false, sc, _, by omega, by simp, by first | omega | (have := worthI_bd (b + 1) (by omega); omega), by first | (simp; done) | (have := HX.out; simp at this ⊢; omega), foldR_new H.out hz (.inr (.inr (.inl (by omega)))), rfl, rfl, rfl, rfl, rfl⟩
              case measure => simp [intOf]
          · have hq : (b == x3) = false := by simpa using e1
            go_wp2
            go_quiet (fail)
            go_wp2
            go_roundw
            case rel => exact ⟨4, [a, b, x3], false, sc, _, by omega, by simp, by first | omega | (have := worthI_bd (x3 + 1) (by omega); omega), by first | (simp; done) | (have := HX.out; simp at this ⊢; omega), foldR_new H.out hz (.inr (.inl (by simpa using e1))), rfl, rfl, rfl, rfl, rfl⟩
            case measure => simp [intOf]
      | [a, b, c], _ =>
        simp only [Row4, List.getD_cons_zero, List.getD_cons_succ, List.getD_nil, List.length_cons, List.length_nil]
        by_cases hz : x3 = 0
        · subst hz
          go_wp2
          go_roundw
          case rel => exact ⟨4, [a, b, c], mg, sc, _, by omega, by simp, by first | omega | (have := worthI_bd (0 + 1) (by omega); omega), by first | (simp; done) | (have := HX.out; simp at this ⊢; omega), foldR_zero H.out, rfl, rfl, rfl, rfl, rfl⟩
          case measure => simp [intOf]
        · by_cases e1 : c = x3
          · subst e1
            by_cases e2 : c < 17
            · have hb := HX.out c (by simp)
              cases mg with
              | false =>
                go_wp2
                go_quiet (fail)
                go_wp2_with (go_at_call 88; refine (l2Worth_any _ _ (by omega)).mono ?_; rintro e w' ⟨rfl, rfl⟩)
                go_roundw
                case rel => exact ⟨4, [a, b, c + 1], true, sc + worthI (c + 1), _, by omega, by simp, by first | omega | (have := worthI_bd (c + 1) (by omega); omega), by first | (simp; done) | (have := HX.out; simp at this ⊢; omega), foldR_merge (p := [a, b]) H.out hz e2, rfl, rfl, by congr 1; have := worthI_bd (c + 1) (by omega); exact IntWalk.wrap64_in _ ⟨by omega, by omega⟩, rfl, rfl⟩
                case measure => simp [intOf]
              | true =>
                go_wp2
                go_quiet (fail)
                go_wp2
                go_roundw
                case rel => exact ⟨4, [a, b, c, c], false, sc, _, by omega, by simp, by first | omega | (have := worthI_bd (c + 1) (by omega); omega), by first | (simp; done) | (have := HX.out; simp at this ⊢; omega), foldR_new H.out hz (.inr (.inr (.inr rfl))), rfl, rfl, rfl, rfl, rfl⟩
                case measure => simp [intOf]
            · have hd : decide (c < 17) = false := by simpa using e2
              go_wp2
              go_quiet (fail)
              go_wp2
              go_roundw
              case rel => exact ⟨4, [a, b, c, c], false, sc, _, by omega, by simp, by first | omega | (have := worthI_bd (c + 1) (by omega); omega), by first | (simp; done) | (have := HX.out; simp at this ⊢; omega), foldR_new H.out hz (.inr (.inr (.inl (by omega)))), rfl, rfl, rfl, rfl, rfl⟩
              case measure => simp [intOf]
          · have hq : (c == x3) = false := by simpa using e1
            go_wp2
            go_quiet (fail)
            go_wp2
            go_roundw
            case rel => exact ⟨4, [a, b, c, x3], false, sc, _, by omega, by simp, by first | omega | (have := worthI_bd (x3 + 1) (by omega); omega), by first | (simp; done) | (have := HX.out; simp at this ⊢; omega), foldR_new H.out hz (.inr (.inl (by simpa using e1))), rfl, rfl, rfl, rfl, rfl⟩
            case measure => simp [intOf]
    | 4, _ =>
      obtain ⟨r1, r2, _⟩ := foldR_row _ _ _ _ H.out
      have R1 : Hid (rowOut [x0, x1, x2, x3] = [l.getD 0 0, l.getD 1 0, l.getD 2 0, l.getD 3 0]) := r1
      have R2 : Hid (rowScore [x0, x1, x2, x3] = sc) := r2
      clear r1 r2 H HX
      simp only [Row4, List.getD_cons_zero, List.getD_cons_succ]
      generalize l.getD 0 0 = o0 at *
      generalize l.getD 1 0 = o1 at *
      generalize l.getD 2 0 = o2 at *
      generalize l.getD 3 0 = o3 at *
      go_wp2
      go_returns
      rw [R2.out]
      exact ⟨o0, o1, o2, o3, R1.out, rfl, Below.drewN (by go_grown) _⟩
end Go.Proofs.Ytgkfhppmopmgjaa
