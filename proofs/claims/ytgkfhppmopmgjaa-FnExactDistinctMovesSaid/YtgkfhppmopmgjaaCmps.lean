/- Walks of single functions of the given Go program, printed by a program of mine; each theorem says what the function returns. -/
import Derived.Test.YtgkfhppmopmgjaaRows
import Derived.WalkKit
import Derived.WalkSpells
import Derived.WalkLawsBesides
import Derived.Handy
import Derived.Deep.QuietTactic
import Derived.BigQuiet
import Derived.Lib.Hide
import Derived.Test.YtgkfhppmopmgjaaPure2
import Derived.Test.YtgkfhppmopmgjaaOwnI
import Derived.Test.YtgkfhppmopmgjaaShelf
import Derived.Test.YtgkfhppmopmgjaaIntS
import Derived.Deep.Cut
set_option linter.all false
namespace Go.Proofs.Ytgkfhppmopmgjaa
open Go.RowKit Pl Go.Lib Go.Shelf

theorem ltL_at : ∀ {a b : List Int} {k : Nat}, (∀ j, j < k → a.getD j 0 = b.getD j 0) → k < a.length → k < b.length → ¬ a.getD k 0 = b.getD k 0 → ltL a b = decide (a.getD k 0 < b.getD k 0)
  | [], _, _, _, h, _, _ => by simp at h
  | _ :: _, [], _, _, _, h, _ => by simp at h
  | x :: a, y :: b, 0, _, _, _, h => by
    simp only [List.getD_cons_zero] at h ⊢
    simp [ltL, h]
  | x :: a, y :: b, k + 1, hj, h1, h2, h => by
    have h0 := hj 0 (by omega)
    simp only [List.getD_cons_zero] at h0
    simp only [List.getD_cons_succ] at h ⊢
    rw [← ltL_at (a := a) (b := b) (k := k) (fun j hjk => by simpa using hj (j + 1) (by omega)) (by simpa using h1) (by simpa using h2) h]
    simp [ltL, h0]
set_option maxRecDepth 100000 in
set_option maxHeartbeats 4000000 in
theorem compare_any (a b : List Int) (ga gb ca cb : Nat) (w : World) (hl : a.length = b.length) (hn : a.length < 1000000)
    (ha : ∀ k, k < a.length → w.cell? ⟨ga, k, none⟩ = some (.int .i64 (a.getD k 0))) (hb : ∀ k, k < b.length → w.cell? ⟨gb, k, none⟩ = some (.int .i64 (b.getD k 0))) :
    Calls Try.prog 82 #[.slice (some ⟨ga, 0, none⟩) a.length ca, .slice (some ⟨gb, 0, none⟩) b.length cb] w fun e w' => ∃ r : Int, e = .returned (.int .i64 r) ∧ decide (r < 0) = ltL a b ∧ w' = w := by
  obtain ⟨n, hN⟩ : ∃ n, n = a.length := ⟨_, rfl⟩
  rw [← hl] at hb ⊢
  rw [← hN] at ha hb hn ⊢
  have HL := Lib.hid hl; have HN := Lib.hid hN; clear hl hN
  have HA := Lib.hid ha; have HB := Lib.hid hb; clear ha hb
  go_enter Try.func82, Try.ntmps82
  go_wp2_with fail
  go_loopw [11] (fun v11 wr => ∃ k : Nat, k ≤ n ∧ v11 = .int .i64 k ∧ wr = w ∧ ∀ j, j < k → a.getD j 0 = b.getD j 0)
    (fun v11 _ => n - (intOf v11).toNat)
  case atStart => exact ⟨0, by omega, rfl, rfl, by omega⟩
  case round =>
    obtain ⟨k, hk, rfl, rfl, hj⟩ := hrel
    have HJ := Lib.hid hj; clear hj
    rcases Nat.lt_or_ge k n with hkn | hkn
    · have h1 := HA.out k hkn
      have h2 := HB.out k hkn
      have h3 := fun h => ltL_at (a := a) (b := b) (k := k) HJ.out (by have := HN.out; omega) (by have := HN.out; have := HL.out; omega) h
      obtain ⟨x, hx⟩ : ∃ x, x = a.getD k 0 := ⟨_, rfl⟩
      obtain ⟨y, hy⟩ : ∃ y, y = b.getD k 0 := ⟨_, rfl⟩
      rw [← hx] at h1 h3
      rw [← hy] at h2 h3
      have HX := Lib.hid hx; have HY := Lib.hid hy; clear hx hy
      have H3 := Lib.hid h3; clear h3
      rcases (show x = y ∨ x < y ∨ y < x by omega) with hc | hc | hc
      · subst hc
        have HE : Hid (a.getD k 0 = b.getD k 0) := HX.out.symm.trans HY.out
        have hcon := fun w => Try.cmp_Compare_int x x w
        rw [show Lib.compareInt x x = 0 by simp [Lib.compareInt]] at hcon
        have HCC := Lib.hid hcon; clear hcon
        go_wp2_with (go_at_call 90; refine (HCC.out _).mono ?_; rintro e w' ⟨rfl, rfl⟩)
        go_roundw
        case rel => exact ⟨k + 1, by omega, by go_num, by trivial, fun j hj => by (by_cases hjk : j < k; exact HJ.out j hjk; (obtain rfl : j = k := by omega); exact HE.out)⟩
        case measure => simp [intOf]; omega
      · have hcon := fun w => Try.cmp_Compare_int x y w
        rw [show Lib.compareInt x y = -1 by (simp [Lib.compareInt] <;> omega)] at hcon
        have HCC := Lib.hid hcon; clear hcon
        go_wp2_with (go_at_call 90; refine (HCC.out _).mono ?_; rintro e w' ⟨rfl, rfl⟩)
        go_ret
        exact ⟨-1, rfl, by rw [H3.out (by omega)]; simp [hc], rfl⟩
      · have hcon := fun w => Try.cmp_Compare_int x y w
        rw [show Lib.compareInt x y = 1 by (simp [Lib.compareInt] <;> omega)] at hcon
        have HCC := Lib.hid hcon; clear hcon
        go_wp2_with (go_at_call 90; refine (HCC.out _).mono ?_; rintro e w' ⟨rfl, rfl⟩)
        go_ret
        exact ⟨1, rfl, by rw [H3.out (by omega)]; simp; omega, rfl⟩
    · obtain rfl : k = n := by omega
      have hab : a = b := eq_of_getD HL.out (fun j hj => HJ.out j (by have := HN.out; omega))
      have HE := Lib.hid hab; clear hab
      go_wp2
      go_ret
      exact ⟨0, rfl, by rw [HE.out, ltL_irrefl]; rfl, rfl⟩
end Go.Proofs.Ytgkfhppmopmgjaa
