/- Walks of single functions of the given Go program, printed by a program of mine; each theorem says what the function returns. -/
import Derived.Test.YtgkfhppmopmgjaaRows
import Derived.WalkKit
import Derived.WalkSpells
import Derived.WalkLawsBesides
import Derived.Handy
import Derived.Deep.QuietTactic
import Derived.BigQuiet
import Derived.Lib.Hide
import Derived.Test.YtgkfhppmopmgjaaOwnBd
import Derived.Test.YtgkfhppmopmgjaaCP
import Derived.Deep.Cut
set_option linter.all false
namespace Go.Proofs.Ytgkfhppmopmgjaa
open Go.RowKit Pl Go.Lib Go.Shelf

/-- The place of the first board that is this one, or -1. -/
def RetIdx (bs : List (List Int)) (b : List Int) (B : Nat) (w : World) (e : Ending) (w' : World) : Prop :=
  ∃ r : Int, e = .returned (.int .i64 r) ∧ Below B w w' ∧ ((∃ k : Nat, r = k ∧ k < bs.length ∧ bs.getD k [] = b ∧ ∀ j, j < k → bs.getD j [] ≠ b) ∨ (r = -1 ∧ ∀ j, j < bs.length → bs.getD j [] ≠ b))
set_option maxRecDepth 100000 in
set_option maxHeartbeats 4000000 in
theorem index_any (bs : List (List Int)) (b : List Int) (hb : b.length = 16) (wb : wfL b) (wbs : ∀ x ∈ bs, wfL x) (B : Nat) (v : Value) (w : World) (hown : OwnBd w B v bs) (hn : bs.length ≤ 1099511627776) :
    Calls Try.prog 50 #[v, aggB b] w (RetIdx bs b w.heap.size w) := by
  have h16 := hown.len
  have HA := Lib.hid (fun h => hown.at h)
  obtain ⟨ad, cap, rfl⟩ := hown.shape
  clear hown
  obtain ⟨n, hN⟩ : ∃ n, n = bs.length := ⟨_, rfl⟩
  have HW := Lib.hid wbs; clear wbs
  have H16 := Lib.hid h16; clear h16
  rw [← hN] at hn HA ⊢
  have HN := Lib.hid hN; clear hN
  go_enter Try.func50, Try.ntmps50
  go_wp2_with fail
  go_loopw [8] (fun v8 wr => ∃ k : Nat, k ≤ n ∧ v8 = .int .i64 k ∧ wr.heap[w.heap.size]? = some (.cells (cellsB b) 28 (0, 0)) ∧ Below w.heap.size w wr ∧ w.heap.size + 1 ≤ wr.heap.size ∧ ∀ j, j < k → bs.getD j [] ≠ b)
    (fun v8 _ => n - (intOf v8).toNat)
  case atStart => exact ⟨0, by omega, rfl, by (repeat' (first | (with_reducible assumption) | ((with_reducible refine heap_new ?_); (focus ((try simp only [World.size_alloc, size_junk, size_setRow, Array.size_append]) <;> omega))) | ((with_reducible refine heap_old ?_ ?_); (focus ((try simp only [World.size_alloc, size_junk, size_setRow, Array.size_append]) <;> omega))) | ((with_reducible refine heap_junk ?_ ?_); (focus ((try simp only [World.size_alloc, size_junk, size_setRow, Array.size_append]) <;> omega))) | ((with_reducible apply heap_setRow_same)) | ((with_reducible refine heap_setRow_other ?_ ?_); (focus ((try simp only [World.size_alloc, size_junk, size_setRow, Array.size_append]) <;> omega))))), by (repeat' (first | (with_reducible exact RowKit.Below.refl _ _) | (with_reducible assumption) | (with_reducible refine Below.drewN ?_ _) | (with_reducible refine below_junk0 ?_ ?_ _ _) | (with_reducible refine RowKit.Below.alloc ?_ ?_ _) | (with_reducible refine below_setRow0 ?_ ?_) | (with_reducible refine RowKit.Below.setCell ?_ ?_ _) | (with_reducible refine RowKit.Below.drew ?_) | go_size | (simp only [size_junk]; go_size) | (simp only [World.size_alloc, size_junk, size_setRow]; omega) | omega)), by ((try simp only [World.size_alloc, size_junk, size_setRow, Array.size_append]) <;> omega), by omega⟩
  case round =>
    obtain ⟨k, hk, rfl, hbox, hbel, hlt, hno⟩ := hrel
    have HNO := Lib.hid hno; clear hno
    rcases Nat.lt_or_ge k n with hkn | hkn
    · obtain ⟨g, c, hv, _, _, _, hg, hcell⟩ := HA.out (by omega)
      obtain ⟨rfl, rfl⟩ : ad = some ⟨g, 0, none⟩ ∧ cap = c := by simpa using hv
      have HC := Lib.hid hcell; clear hcell hv
      have hgr : g < wr.heap.size := Nat.lt_of_lt_of_le hg hbel.size
      have hkb : k < bs.length := by have := HN.out; omega
      have hkl := getD_16 H16.out k hkb
      have hck := fun j (hj : j < 16) => HC.out k j hkn hj
      have hwk : wfL (bs.getD k []) := HW.out _ (by rw [List.getD_eq_getElem?_getD, List.getElem?_eq_getElem hkb]; exact List.getElem_mem hkb)
      obtain ⟨x, hx⟩ : ∃ x, x = bs.getD k [] := ⟨_, rfl⟩
      rw [← hx] at hkl hck hwk
      have HX := Lib.hid hx; clear hx
      have HCK := Lib.hid hck; clear hck
      have HK := Lib.hid hkl
      have heq : ∀ w, (binOp .eql 28 (aggB b) (aggB x)).run Try.prog w = .ok (.bool (b == x)) w := fun w => eql_board b _ hb hkl wb hwk w
      clear hkl hwk
      by_cases hc : x = b
      · rw [show (b == x) = true from beq_iff_eq.2 hc.symm] at heq
        have HM := Lib.hid hc; clear hc
        go_upto_region 4 with fail
        (refine wp_region_quiet_junk (by kernel_rfl) (by kernel_rfl) ?_; (repeat (first | ((with_reducible apply loadQB (n := 16) (ty := 28) Try.underlying28); (focus with_unfolding_all exact rfl); (focus ((rintro _ ⟨p, rfl⟩); ((repeat' (first | (with_reducible assumption) | ((with_reducible refine heap_new ?_); (focus ((try simp only [World.size_alloc, size_junk, size_setRow, Array.size_append]) <;> omega))) | ((with_reducible refine heap_old ?_ ?_); (focus ((try simp only [World.size_alloc, size_junk, size_setRow, Array.size_append]) <;> omega))) | ((with_reducible refine heap_junk ?_ ?_); (focus ((try simp only [World.size_alloc, size_junk, size_setRow, Array.size_append]) <;> omega))) | ((with_reducible apply heap_setRow_same)) | ((with_reducible refine heap_setRow_other ?_ ?_); (focus ((try simp only [World.size_alloc, size_junk, size_setRow, Array.size_append]) <;> omega)))))); done)); (focus rfl); (focus kernel_rfl); (focus exact hb)) | ((with_reducible apply loadQm2 (ty := 28) (n := 16) (l := x) Try.underlying28); (focus with_unfolding_all exact rfl); (focus exact HK.out); (focus (rintro _ ⟨p, rfl⟩ j hj; exact (cell?_junk wr p.d p.os g _ hgr).trans ((hbel.cell (p := ⟨g, k * 16 + j, none⟩) hg).trans (HCK.out j hj)))); (focus rfl); (focus kernel_rfl)) | quiet_step (fail))); refine wpQuiet_nil ?_; intro _ hw'; obtain ⟨⟨dq, osq⟩, hw''⟩ := hw'; subst hw'')
        go_wp2
        go_ret
        exact ⟨k, rfl, by (repeat' (first | (with_reducible exact RowKit.Below.refl _ _) | (with_reducible assumption) | (with_reducible refine Below.drewN ?_ _) | (with_reducible refine below_junk0 ?_ ?_ _ _) | (with_reducible refine RowKit.Below.alloc ?_ ?_ _) | (with_reducible refine below_setRow0 ?_ ?_) | (with_reducible refine RowKit.Below.setCell ?_ ?_ _) | (with_reducible refine RowKit.Below.drew ?_) | go_size | (simp only [size_junk]; go_size) | (simp only [World.size_alloc, size_junk, size_setRow]; omega) | omega)), .inl ⟨k, rfl, hkb, HX.out.symm.trans HM.out, HNO.out⟩⟩
      · rw [show (b == x) = false from beq_eq_false_iff_ne.2 (Ne.symm hc)] at heq
        have HM := Lib.hid hc; clear hc
        go_upto_region 4 with fail
        (refine wp_region_quiet_junk (by kernel_rfl) (by kernel_rfl) ?_; (repeat (first | ((with_reducible apply loadQB (n := 16) (ty := 28) Try.underlying28); (focus with_unfolding_all exact rfl); (focus ((rintro _ ⟨p, rfl⟩); ((repeat' (first | (with_reducible assumption) | ((with_reducible refine heap_new ?_); (focus ((try simp only [World.size_alloc, size_junk, size_setRow, Array.size_append]) <;> omega))) | ((with_reducible refine heap_old ?_ ?_); (focus ((try simp only [World.size_alloc, size_junk, size_setRow, Array.size_append]) <;> omega))) | ((with_reducible refine heap_junk ?_ ?_); (focus ((try simp only [World.size_alloc, size_junk, size_setRow, Array.size_append]) <;> omega))) | ((with_reducible apply heap_setRow_same)) | ((with_reducible refine heap_setRow_other ?_ ?_); (focus ((try simp only [World.size_alloc, size_junk, size_setRow, Array.size_append]) <;> omega)))))); done)); (focus rfl); (focus kernel_rfl); (focus exact hb)) | ((with_reducible apply loadQm2 (ty := 28) (n := 16) (l := x) Try.underlying28); (focus with_unfolding_all exact rfl); (focus exact HK.out); (focus (rintro _ ⟨p, rfl⟩ j hj; exact (cell?_junk wr p.d p.os g _ hgr).trans ((hbel.cell (p := ⟨g, k * 16 + j, none⟩) hg).trans (HCK.out j hj)))); (focus rfl); (focus kernel_rfl)) | quiet_step (fail))); refine wpQuiet_nil ?_; intro _ hw'; obtain ⟨⟨dq, osq⟩, hw''⟩ := hw'; subst hw'')
        go_wp2
        go_roundw
        case rel => exact ⟨k + 1, by omega, by go_num, by (repeat' (first | (with_reducible assumption) | ((with_reducible refine heap_new ?_); (focus ((try simp only [World.size_alloc, size_junk, size_setRow, Array.size_append]) <;> omega))) | ((with_reducible refine heap_old ?_ ?_); (focus ((try simp only [World.size_alloc, size_junk, size_setRow, Array.size_append]) <;> omega))) | ((with_reducible refine heap_junk ?_ ?_); (focus ((try simp only [World.size_alloc, size_junk, size_setRow, Array.size_append]) <;> omega))) | ((with_reducible apply heap_setRow_same)) | ((with_reducible refine heap_setRow_other ?_ ?_); (focus ((try simp only [World.size_alloc, size_junk, size_setRow, Array.size_append]) <;> omega))))), by (repeat' (first | (with_reducible exact RowKit.Below.refl _ _) | (with_reducible assumption) | (with_reducible refine Below.drewN ?_ _) | (with_reducible refine below_junk0 ?_ ?_ _ _) | (with_reducible refine RowKit.Below.alloc ?_ ?_ _) | (with_reducible refine below_setRow0 ?_ ?_) | (with_reducible refine RowKit.Below.setCell ?_ ?_ _) | (with_reducible refine RowKit.Below.drew ?_) | go_size | (simp only [size_junk]; go_size) | (simp only [World.size_alloc, size_junk, size_setRow]; omega) | omega)), by ((try simp only [World.size_alloc, size_junk, size_setRow, Array.size_append]) <;> omega), fun j hj => by (by_cases hjk : j < k; exact HNO.out j hjk; (obtain rfl : j = k := by omega); rw [← HX.out]; exact HM.out)⟩
        case measure => simp [intOf]; omega
    · obtain rfl : k = n := by omega
      go_wp2
      go_ret
      exact ⟨-1, rfl, by (repeat' (first | (with_reducible exact RowKit.Below.refl _ _) | (with_reducible assumption) | (with_reducible refine Below.drewN ?_ _) | (with_reducible refine below_junk0 ?_ ?_ _ _) | (with_reducible refine RowKit.Below.alloc ?_ ?_ _) | (with_reducible refine below_setRow0 ?_ ?_) | (with_reducible refine RowKit.Below.setCell ?_ ?_ _) | (with_reducible refine RowKit.Below.drew ?_) | go_size | (simp only [size_junk]; go_size) | (simp only [World.size_alloc, size_junk, size_setRow]; omega) | omega)), .inr ⟨rfl, fun j hj => HNO.out j (by have := HN.out; omega)⟩⟩
end Go.Proofs.Ytgkfhppmopmgjaa
