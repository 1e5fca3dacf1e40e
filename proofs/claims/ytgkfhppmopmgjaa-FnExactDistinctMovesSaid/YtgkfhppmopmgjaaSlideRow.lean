/- Walks of single functions of the given Go program, printed by a program of mine; each theorem says what the function returns. -/
import Derived.Test.YtgkfhppmopmgjaaRows
import Derived.WalkKit
import Derived.WalkSpells
import Derived.WalkLawsBesides
import Derived.Handy
import Derived.Deep.QuietTactic
import Derived.BigQuiet
import Derived.Lib.Hide
import Derived.Test.YtgkfhppmopmgjaaTiles
import Derived.Test.YtgkfhppmopmgjaaFold
import Derived.Deep.RegionWith
set_option linter.all false
namespace Go.Proofs.Ytgkfhppmopmgjaa
open Go.RowKit Pl

theorem worth_any (t : Int) (w : World) (h : 1 ≤ t ∧ t ≤ 17) :
    Calls Try.prog 86 #[.int .i64 t] w fun e w' => e = .returned (.int .i64 (worthI t)) ∧ w = w' := by
  have h0 : (t == 0) = false := by rw [beq_eq_false_iff_ne]; omega
  go_enter Try.func86, Try.ntmps86
  go_wp2
  go_ret
  exact ⟨ret_int (worth_wrap t (by omega)), rfl⟩

abbrev W5 (w : World) (x0 x1 x2 x3 : Int) (o0 o1 o2 o3 : Int) (m0 m1 m2 m3 : Bool) : World :=
  ((((w.alloc (Obj.cells #[Value.int IntKind.i64 x0, Value.int IntKind.i64 x1, Value.int IntKind.i64 x2, Value.int IntKind.i64 x3] 22)).alloc
      (Obj.cells #[Value.int IntKind.i64 0, Value.int IntKind.i64 0, Value.int IntKind.i64 0, Value.int IntKind.i64 0] 22)).alloc
      (Obj.cells #[Value.bool false, Value.bool false, Value.bool false, Value.bool false] 82)).alloc
      (Obj.cells #[Value.int IntKind.i64 o0, Value.int IntKind.i64 o1, Value.int IntKind.i64 o2, Value.int IntKind.i64 o3] 22)).alloc
    (Obj.cells #[Value.bool m0, Value.bool m1, Value.bool m2, Value.bool m3] 82)

def SlInv (x0 x1 x2 x3 : Int) (ts : List Int) (g : Nat) (w : World) (v7 v8 v16 : Value) (wr : World) : Prop :=
  ∃ (k : Nat) (p : List (Int × Bool)) (sc : Int), k ≤ ts.length ∧ p.length ≤ k ∧ (0 ≤ sc ∧ sc ≤ 200000 * k) ∧ (∀ q ∈ p, 1 ≤ q.1 ∧ q.1 ≤ 17) ∧
    foldP (ts.take k) = (p, sc) ∧ v16 = .int .i64 k ∧ v8 = .int .i64 p.length ∧ v7 = .int .i64 sc ∧
    (∀ j (h : j < ts.length), wr.cell? ⟨g, j, none⟩ = some (.int .i64 ts[j])) ∧
    RowKit.Below (W5 w x0 x1 x2 x3 (p.getD 0 (0, false)).1 (p.getD 1 (0, false)).1 (p.getD 2 (0, false)).1 (p.getD 3 (0, false)).1 (p.getD 0 (0, false)).2 (p.getD 1 (0, false)).2 (p.getD 2 (0, false)).2 (p.getD 3 (0, false)).2).heap.size
      (W5 w x0 x1 x2 x3 (p.getD 0 (0, false)).1 (p.getD 1 (0, false)).1 (p.getD 2 (0, false)).1 (p.getD 3 (0, false)).1 (p.getD 0 (0, false)).2 (p.getD 1 (0, false)).2 (p.getD 2 (0, false)).2 (p.getD 3 (0, false)).2) wr

theorem cell_set_other (w : World) (a p : Addr) (v : Value) (h : p.block ≠ a.block) : (w.setCell a v).cell? p = w.cell? p := by
  simp only [World.setCell, World.cell?, Array.getElem?_modify]
  rw [if_neg (fun e => h e.symm)]
theorem W5_out0 (w : World) (x0 x1 x2 x3 o0 o1 o2 o3 v : Int) (m0 m1 m2 m3 : Bool) :
    (W5 w x0 x1 x2 x3 o0 o1 o2 o3 m0 m1 m2 m3).setCell ⟨w.heap.size + 1 + 1 + 1, 0, none⟩ (.int .i64 v) = W5 w x0 x1 x2 x3 v o1 o2 o3 m0 m1 m2 m3 := by
  simp [W5, go_sem]
theorem W5_mg0 (w : World) (x0 x1 x2 x3 o0 o1 o2 o3 : Int) (v : Bool) (m0 m1 m2 m3 : Bool) :
    (W5 w x0 x1 x2 x3 o0 o1 o2 o3 m0 m1 m2 m3).setCell ⟨w.heap.size + 1 + 1 + 1 + 1, 0, none⟩ (.bool v) = W5 w x0 x1 x2 x3 o0 o1 o2 o3 v m1 m2 m3 := by
  simp [W5, go_sem]
theorem W5_out1 (w : World) (x0 x1 x2 x3 o0 o1 o2 o3 v : Int) (m0 m1 m2 m3 : Bool) :
    (W5 w x0 x1 x2 x3 o0 o1 o2 o3 m0 m1 m2 m3).setCell ⟨w.heap.size + 1 + 1 + 1, 1, none⟩ (.int .i64 v) = W5 w x0 x1 x2 x3 o0 v o2 o3 m0 m1 m2 m3 := by
  simp [W5, go_sem]
theorem W5_mg1 (w : World) (x0 x1 x2 x3 o0 o1 o2 o3 : Int) (v : Bool) (m0 m1 m2 m3 : Bool) :
    (W5 w x0 x1 x2 x3 o0 o1 o2 o3 m0 m1 m2 m3).setCell ⟨w.heap.size + 1 + 1 + 1 + 1, 1, none⟩ (.bool v) = W5 w x0 x1 x2 x3 o0 o1 o2 o3 m0 v m2 m3 := by
  simp [W5, go_sem]
theorem W5_out2 (w : World) (x0 x1 x2 x3 o0 o1 o2 o3 v : Int) (m0 m1 m2 m3 : Bool) :
    (W5 w x0 x1 x2 x3 o0 o1 o2 o3 m0 m1 m2 m3).setCell ⟨w.heap.size + 1 + 1 + 1, 2, none⟩ (.int .i64 v) = W5 w x0 x1 x2 x3 o0 o1 v o3 m0 m1 m2 m3 := by
  simp [W5, go_sem]
theorem W5_mg2 (w : World) (x0 x1 x2 x3 o0 o1 o2 o3 : Int) (v : Bool) (m0 m1 m2 m3 : Bool) :
    (W5 w x0 x1 x2 x3 o0 o1 o2 o3 m0 m1 m2 m3).setCell ⟨w.heap.size + 1 + 1 + 1 + 1, 2, none⟩ (.bool v) = W5 w x0 x1 x2 x3 o0 o1 o2 o3 m0 m1 v m3 := by
  simp [W5, go_sem]
theorem W5_out3 (w : World) (x0 x1 x2 x3 o0 o1 o2 o3 v : Int) (m0 m1 m2 m3 : Bool) :
    (W5 w x0 x1 x2 x3 o0 o1 o2 o3 m0 m1 m2 m3).setCell ⟨w.heap.size + 1 + 1 + 1, 3, none⟩ (.int .i64 v) = W5 w x0 x1 x2 x3 o0 o1 o2 v m0 m1 m2 m3 := by
  simp [W5, go_sem]
theorem W5_mg3 (w : World) (x0 x1 x2 x3 o0 o1 o2 o3 : Int) (v : Bool) (m0 m1 m2 m3 : Bool) :
    (W5 w x0 x1 x2 x3 o0 o1 o2 o3 m0 m1 m2 m3).setCell ⟨w.heap.size + 1 + 1 + 1 + 1, 3, none⟩ (.bool v) = W5 w x0 x1 x2 x3 o0 o1 o2 o3 m0 m1 m2 v := by
  simp [W5, go_sem]

/-- What a row's slide hands back. -/
def RetSlide (x : List Int) (B : Nat) (w : World) (e : Ending) (w' : World) : Prop :=
  ∃ o0 o1 o2 o3 : Int, ∃ m0 m1 m2 m3 : Bool, rowOut x = [o0, o1, o2, o3] ∧ rowMg x = [m0, m1, m2, m3] ∧
    e = .returned (.tuple #[.agg #[.int .i64 o0, .int .i64 o1, .int .i64 o2, .int .i64 o3], .int .i64 (rowScore x), .agg #[.bool m0, .bool m1, .bool m2, .bool m3]]) ∧ RowKit.Below B w w'

set_option maxHeartbeats 4000000 in
theorem slideRow_any (x0 x1 x2 x3 : Int) (w : World) (h0 : 0 ≤ x0 ∧ x0 ≤ 17) (h1 : 0 ≤ x1 ∧ x1 ≤ 17) (h2 : 0 ≤ x2 ∧ x2 ≤ 17) (h3 : 0 ≤ x3 ∧ x3 ≤ 17) :
    Calls Try.prog 68 #[.agg #[.int .i64 x0, .int .i64 x1, .int .i64 x2, .int .i64 x3]] w (RetSlide [x0, x1, x2, x3] w.heap.size w) := by
  go_enter Try.func68, Try.ntmps68
  go_wp2_with fail
  refine (tiles_any _ _ _ _ _).mono ?_
  rintro e w1 ⟨v, rfl, hown, hb⟩
  have HT := Lib.hid (tilesL_ok (r := [x0, x1, x2, x3]) (by intro x hx; simp at hx; rcases hx with rfl | rfl | rfl | rfl <;> assumption))
  have hlen : (tilesL [x0, x1, x2, x3]).length ≤ 4 := List.length_filter_le _ _
  obtain ⟨ts, hts⟩ : ∃ ts, ts = tilesL [x0, x1, x2, x3] := ⟨_, rfl⟩
  rw [← hts] at HT hlen hown
  have HE := Lib.hid hts
  clear hts
  obtain ⟨hl, ⟨hn, hn2⟩ | ⟨g, cap, cur, rfl, hbg, hblk, h4, hcap, hsz, htk⟩⟩ := hown
  · have h0 : ts = [] := by simpa using hn2
    subst h0
    subst hn
    have h1 := HE.out
    have R1 : Hid (rowOut [x0, x1, x2, x3] = [0, 0, 0, 0]) := by
      show rowOut [x0, x1, x2, x3] = _
      unfold rowOut; rw [← h1]; rfl
    have R2 : Hid (rowMg [x0, x1, x2, x3] = [false, false, false, false]) := by
      show rowMg [x0, x1, x2, x3] = _
      unfold rowMg; rw [← h1]; rfl
    have R3 : Hid (rowScore [x0, x1, x2, x3] = 0) := by
      show rowScore [x0, x1, x2, x3] = 0
      unfold rowScore; rw [← h1]; rfl
    clear h1 HT HE hl hlen hn2
    obtain ⟨hc, hff⟩ := bcell hb
    go_wp2_with fail
    go_rounds 1
    go_region
    go_wp2
    have hb0 : RowKit.Below w.heap.size w w1 := Below.from0 (by go_grown) (by go_size) hb
    refine bodyPost_ret (v := .tuple #[.agg #[.int .i64 0, .int .i64 0, .int .i64 0, .int .i64 0], .int .i64 0, .agg #[.bool false, .bool false, .bool false, .bool false]]) (by simp [results, Try.results68, go_sem, hc]) rfl ?_
    exact ⟨0, 0, 0, 0, false, false, false, false, R1.out, R2.out, by rw [R3.out], by clear hc hff; go_grown⟩
  · have HL := Lib.hid (cells_of (xs := ts) hblk htk)
    have hg : g < w1.heap.size := (Array.getElem?_eq_some_iff.1 hblk).1
    have hgs : w.heap.size + 4 < g := by simp at hbg; omega
    clear hl hbg hblk hsz htk
    go_wp2_with fail
    go_loopw [7, 8, 16] (fun v7 v8 v16 wr => SlInv x0 x1 x2 x3 ts g w v7 v8 v16 wr) (fun _ _ v16 _ => ts.length - (intOf v16).toNat)
    case atStart => exact ⟨0, [], 0, by omega, by simp, by omega, by simp, rfl, rfl, rfl, rfl, HL.out, hb⟩
    case round =>
      obtain ⟨k, p, sc, hk, hp, hsc, hx, hf, rfl, rfl, rfl, hcs, hbw⟩ := hrel
      clear hb
      have H := Lib.hid hf; clear hf
      have HX := Lib.hid hx; clear hx
      have HC := Lib.hid hcs; clear hcs
      have wr0 : IntKind.i64.wrap 0 = 0 := rfl
      have wr1 : IntKind.i64.wrap 1 = 1 := rfl
      have wr2 : IntKind.i64.wrap 2 = 2 := rfl
      have wr3 : IntKind.i64.wrap 3 = 3 := rfl
      by_cases hlt : k < ts.length
      · obtain ⟨t, ht⟩ : ∃ t, t = ts[k] := ⟨_, rfl⟩
        have hcell := HC.out k hlt
        rw [← ht] at hcell
        have htb := HT.out t (by rw [ht]; exact List.getElem_mem _)
        have htk : ts.take (k + 1) = ts.take k ++ [t] := by rw [List.take_succ_eq_append_getElem hlt, ht]
        have HK := Lib.hid htk
        clear htk ht
        have hgk : w.heap.size + 4 < g := hgs
        have HB := Lib.hid hbw
        match p, (show p.length ≤ 3 by omega) with
        | [], _ =>
          simp only [W5, List.getD_cons_zero, List.getD_cons_succ, List.getD_nil] at hbw
          obtain ⟨hc, hff⟩ := bcell hbw
          clear hbw
          simp only [List.length_cons, List.length_nil]
          go_wp2
          go_roundw
          case rel => exact ⟨k + 1, [(t, false)], sc, by omega, by first | (simp at hp ⊢; omega) | (simp; done), by first | omega | (have := worthI_bd (t + 1) (by omega); omega), by first | (simp; done) | (have := HX.out; simp at this ⊢; omega) | (simp; omega), by rw [HK.out]; exact foldP_new H.out (.inl rfl), by go_num, rfl, rfl, fun j h => by (repeat rw [cell_set_other _ _ _ _ (by simp only []; omega)]); exact HC.out j h, by have hq := Below.set1 HB.out ⟨w.heap.size + 1 + 1 + 1, 0, none⟩ (.int .i64 t); rw [W5_out0] at hq; exact hq⟩
          case measure => simp [intOf]; omega
        | [(a, ma)], _ =>
          simp only [W5, List.getD_cons_zero, List.getD_cons_succ, List.getD_nil] at hbw
          obtain ⟨hc, hff⟩ := bcell hbw
          clear hbw
          simp only [List.length_cons, List.length_nil]
          by_cases e1 : a = t
          · subst e1
            by_cases e2 : a < 17
            · cases ma with
              | false =>
                have hwb := worthI_bd (a + 1) (by omega)
                have wra : IntKind.i64.wrap (a + 1) = a + 1 := IntWalk.i64_in _ (by omega)
                have wrs : IntKind.i64.wrap (sc + worthI (a + 1)) = sc + worthI (a + 1) := IntWalk.i64_in _ (by omega)
                go_wp2
                go_region_with (go_at_call 86; refine (worth_any _ _ (by omega)).mono ?_; rintro e w' ⟨rfl, rfl⟩)
                go_wp2
                go_roundw
                case rel => exact ⟨k + 1, [(a + 1, true)], sc + worthI (a + 1), by omega, by first | (simp at hp ⊢; omega) | (simp; done), by first | omega | (have := worthI_bd (a + 1) (by omega); omega), by first | (simp; done) | (have := HX.out; simp at this ⊢; omega) | (simp; omega), by rw [HK.out]; exact foldP_merge (p := []) H.out e2, by go_num, rfl, rfl, fun j h => by (show World.cell? (World.setCell (World.setCell wr _ _) _ _) ⟨g, j, none⟩ = _); (repeat rw [cell_set_other _ _ _ _ (by simp only []; omega)]); exact HC.out j h, by have hq := Below.set1 (Below.set1 (Below.drew HB.out) ⟨w.heap.size + 1 + 1 + 1, 0, none⟩ (.int .i64 (a + 1))) ⟨w.heap.size + 1 + 1 + 1 + 1, 0, none⟩ (.bool true); rw [W5_out0, W5_mg0] at hq; exact hq⟩
                case measure => simp [intOf]; omega
              | true =>
                go_wp2
                go_roundw
                case rel => exact ⟨k + 1, [(a, true), (a, false)], sc, by omega, by first | (simp at hp ⊢; omega) | (simp; done), by first | omega | (have := worthI_bd (a + 1) (by omega); omega), by first | (simp; done) | (have := HX.out; simp at this ⊢; omega) | (simp; omega), by rw [HK.out]; exact foldP_new H.out (.inr (.inl (by simp))), by go_num, rfl, rfl, fun j h => by (repeat rw [cell_set_other _ _ _ _ (by simp only []; omega)]); exact HC.out j h, by have hq := Below.set1 HB.out ⟨w.heap.size + 1 + 1 + 1, 1, none⟩ (.int .i64 a); rw [W5_out1] at hq; exact hq⟩
                case measure => simp [intOf]; omega
            · go_wp2
              go_roundw
              case rel => exact ⟨k + 1, [(a, ma), (a, false)], sc, by omega, by first | (simp at hp ⊢; omega) | (simp; done), by first | omega | (have := worthI_bd (a + 1) (by omega); omega), by first | (simp; done) | (have := HX.out; simp at this ⊢; omega) | (simp; omega), by rw [HK.out]; exact foldP_new H.out (.inr (.inr (by omega))), by go_num, rfl, rfl, fun j h => by (repeat rw [cell_set_other _ _ _ _ (by simp only []; omega)]); exact HC.out j h, by have hq := Below.set1 HB.out ⟨w.heap.size + 1 + 1 + 1, 1, none⟩ (.int .i64 a); rw [W5_out1] at hq; exact hq⟩
              case measure => simp [intOf]; omega
          · go_wp2
            go_roundw
            case rel => exact ⟨k + 1, [(a, ma), (t, false)], sc, by omega, by first | (simp at hp ⊢; omega) | (simp; done), by first | omega | (have := worthI_bd (t + 1) (by omega); omega), by first | (simp; done) | (have := HX.out; simp at this ⊢; omega) | (simp; omega), by rw [HK.out]; exact foldP_new H.out (.inr (.inl (by simp [e1]))), by go_num, rfl, rfl, fun j h => by (repeat rw [cell_set_other _ _ _ _ (by simp only []; omega)]); exact HC.out j h, by have hq := Below.set1 HB.out ⟨w.heap.size + 1 + 1 + 1, 1, none⟩ (.int .i64 t); rw [W5_out1] at hq; exact hq⟩
            case measure => simp [intOf]; omega
        | [(a, ma), (b, mb)], _ =>
          simp only [W5, List.getD_cons_zero, List.getD_cons_succ, List.getD_nil] at hbw
          obtain ⟨hc, hff⟩ := bcell hbw
          clear hbw
          simp only [List.length_cons, List.length_nil]
          by_cases e1 : b = t
          · subst e1
            by_cases e2 : b < 17
            · cases mb with
              | false =>
                have hwb := worthI_bd (b + 1) (by omega)
                have wra : IntKind.i64.wrap (b + 1) = b + 1 := IntWalk.i64_in _ (by omega)
                have wrs : IntKind.i64.wrap (sc + worthI (b + 1)) = sc + worthI (b + 1) := IntWalk.i64_in _ (by omega)
                go_wp2
                go_region_with (go_at_call 86; refine (worth_any _ _ (by omega)).mono ?_; rintro e w' ⟨rfl, rfl⟩)
                go_wp2
                go_roundw
                case rel => exact ⟨k + 1, [(a, ma), (b + 1, true)], sc + worthI (b + 1), by omega, by first | (simp at hp ⊢; omega) | (simp; done), by first | omega | (have := worthI_bd (b + 1) (by omega); omega), by first | (simp; done) | (have := HX.out; simp at this ⊢; omega) | (simp; omega), by rw [HK.out]; exact foldP_merge (p := [(a, ma)]) H.out e2, by go_num, rfl, rfl, fun j h => by (show World.cell? (World.setCell (World.setCell wr _ _) _ _) ⟨g, j, none⟩ = _); (repeat rw [cell_set_other _ _ _ _ (by simp only []; omega)]); exact HC.out j h, by have hq := Below.set1 (Below.set1 (Below.drew HB.out) ⟨w.heap.size + 1 + 1 + 1, 1, none⟩ (.int .i64 (b + 1))) ⟨w.heap.size + 1 + 1 + 1 + 1, 1, none⟩ (.bool true); rw [W5_out1, W5_mg1] at hq; exact hq⟩
                case measure => simp [intOf]; omega
              | true =>
                go_wp2
                go_roundw
                case rel => exact ⟨k + 1, [(a, ma), (b, true), (b, false)], sc, by omega, by first | (simp at hp ⊢; omega) | (simp; done), by first | omega | (have := worthI_bd (b + 1) (by omega); omega), by first | (simp; done) | (have := HX.out; simp at this ⊢; omega) | (simp; omega), by rw [HK.out]; exact foldP_new H.out (.inr (.inl (by simp))), by go_num, rfl, rfl, fun j h => by (repeat rw [cell_set_other _ _ _ _ (by simp only []; omega)]); exact HC.out j h, by have hq := Below.set1 HB.out ⟨w.heap.size + 1 + 1 + 1, 2, none⟩ (.int .i64 b); rw [W5_out2] at hq; exact hq⟩
                case measure => simp [intOf]; omega
            · go_wp2
              go_roundw
              case rel => exact ⟨k + 1, [(a, ma), (b, mb), (b, false)], sc, by omega, by first | (simp at hp ⊢; omega) | (simp; done), by first | omega | (have := worthI_bd (b + 1) (by omega); omega), by first | (simp; done) | (have := HX.out; simp at this ⊢; omega) | (simp; omega), by rw [HK.out]; exact foldP_new H.out (.inr (.inr (by omega))), by go_num, rfl, rfl, fun j h => by (repeat rw [cell_set_other _ _ _ _ (by simp only []; omega)]); exact HC.out j h, by have hq := Below.set1 HB.out ⟨w.heap.size + 1 + 1 + 1, 2, none⟩ (.int .i64 b); rw [W5_out2] at hq; exact hq⟩
              case measure => simp [intOf]; omega
          · go_wp2
            go_roundw
            case rel => exact ⟨k + 1, [(a, ma), (b, mb), (t, false)], sc, by omega, by first | (simp at hp ⊢; omega) | (simp; done), by first | omega | (have := worthI_bd (t + 1) (by omega); omega), by first | (simp; done) | (have := HX.out; simp at this ⊢; omega) | (simp; omega), by rw [HK.out]; exact foldP_new H.out (.inr (.inl (by simp [e1]))), by go_num, rfl, rfl, fun j h => by (repeat rw [cell_set_other _ _ _ _ (by simp only []; omega)]); exact HC.out j h, by have hq := Below.set1 HB.out ⟨w.heap.size + 1 + 1 + 1, 2, none⟩ (.int .i64 t); rw [W5_out2] at hq; exact hq⟩
            case measure => simp [intOf]; omega
        | [(a, ma), (b, mb), (c, mc)], _ =>
          simp only [W5, List.getD_cons_zero, List.getD_cons_succ, List.getD_nil] at hbw
          obtain ⟨hc, hff⟩ := bcell hbw
          clear hbw
          simp only [List.length_cons, List.length_nil]
          by_cases e1 : c = t
          · subst e1
            by_cases e2 : c < 17
            · cases mc with
              | false =>
                have hwb := worthI_bd (c + 1) (by omega)
                have wra : IntKind.i64.wrap (c + 1) = c + 1 := IntWalk.i64_in _ (by omega)
                have wrs : IntKind.i64.wrap (sc + worthI (c + 1)) = sc + worthI (c + 1) := IntWalk.i64_in _ (by omega)
                go_wp2
                go_region_with (go_at_call 86; refine (worth_any _ _ (by omega)).mono ?_; rintro e w' ⟨rfl, rfl⟩)
                go_wp2
                go_roundw
                case rel => exact ⟨k + 1, [(a, ma), (b, mb), (c + 1, true)], sc + worthI (c + 1), by omega, by first | (simp at hp ⊢; omega) | (simp; done), by first | omega | (have := worthI_bd (c + 1) (by omega); omega), by first | (simp; done) | (have := HX.out; simp at this ⊢; omega) | (simp; omega), by rw [HK.out]; exact foldP_merge (p := [(a, ma), (b, mb)]) H.out e2, by go_num, rfl, rfl, fun j h => by (show World.cell? (World.setCell (World.setCell wr _ _) _ _) ⟨g, j, none⟩ = _); (repeat rw [cell_set_other _ _ _ _ (by simp only []; omega)]); exact HC.out j h, by have hq := Below.set1 (Below.set1 (Below.drew HB.out) ⟨w.heap.size + 1 + 1 + 1, 2, none⟩ (.int .i64 (c + 1))) ⟨w.heap.size + 1 + 1 + 1 + 1, 2, none⟩ (.bool true); rw [W5_out2, W5_mg2] at hq; exact hq⟩
                case measure => simp [intOf]; omega
              | true =>
                go_wp2
                go_roundw
                case rel => exact ⟨k + 1, [(a, ma), (b, mb), (c, true), (c, false)], sc, by omega, by first | (simp at hp ⊢; omega) | (simp; done), by first | omega | (have := worthI_bd (c + 1) (by omega); omega), by first | (simp; done) | (have := HX.out; simp at this ⊢; omega) | (simp; omega), by rw [HK.out]; exact foldP_new H.out (.inr (.inl (by simp))), by go_num, rfl, rfl, fun j h => by (repeat rw [cell_set_other _ _ _ _ (by simp only []; omega)]); exact HC.out j h, by have hq := Below.set1 HB.out ⟨w.heap.size + 1 + 1 + 1, 3, none⟩ (.int .i64 c); rw [W5_out3] at hq; exact hq⟩
                case measure => simp [intOf]; omega
            · go_wp2
              go_roundw
              case rel => exact ⟨k + 1, [(a, ma), (b, mb), (c, mc), (c, false)], sc, by omega, by first | (simp at hp ⊢; omega) | (simp; done), by first | omega | (have := worthI_bd (c + 1) (by omega); omega), by first | (simp; done) | (have := HX.out; simp at this ⊢; omega) | (simp; omega), by rw [HK.out]; exact foldP_new H.out (.inr (.inr (by omega))), by go_num, rfl, rfl, fun j h => by (repeat rw [cell_set_other _ _ _ _ (by simp only []; omega)]); exact HC.out j h, by have hq := Below.set1 HB.out ⟨w.heap.size + 1 + 1 + 1, 3, none⟩ (.int .i64 c); rw [W5_out3] at hq; exact hq⟩
              case measure => simp [intOf]; omega
          · go_wp2
            go_roundw
            case rel => exact ⟨k + 1, [(a, ma), (b, mb), (c, mc), (t, false)], sc, by omega, by first | (simp at hp ⊢; omega) | (simp; done), by first | omega | (have := worthI_bd (t + 1) (by omega); omega), by first | (simp; done) | (have := HX.out; simp at this ⊢; omega) | (simp; omega), by rw [HK.out]; exact foldP_new H.out (.inr (.inl (by simp [e1]))), by go_num, rfl, rfl, fun j h => by (repeat rw [cell_set_other _ _ _ _ (by simp only []; omega)]); exact HC.out j h, by have hq := Below.set1 HB.out ⟨w.heap.size + 1 + 1 + 1, 3, none⟩ (.int .i64 t); rw [W5_out3] at hq; exact hq⟩
            case measure => simp [intOf]; omega
      · obtain rfl : k = ts.length := by omega
        rw [List.take_length, foldP_all] at H
        have H1 : mergeL ts = p := congrArg (·.1) H.out
        have H2 : scoreL (mergeL ts) = sc := congrArg (·.2) H.out
        have R1 : Hid (rowOut [x0, x1, x2, x3] = [(p.getD 0 (0, false)).1, (p.getD 1 (0, false)).1, (p.getD 2 (0, false)).1, (p.getD 3 (0, false)).1]) := by
          show rowOut [x0, x1, x2, x3] = _
          unfold rowOut; rw [← HE.out, H1]; rfl
        have R2 : Hid (rowMg [x0, x1, x2, x3] = [(p.getD 0 (0, false)).2, (p.getD 1 (0, false)).2, (p.getD 2 (0, false)).2, (p.getD 3 (0, false)).2]) := by
          show rowMg [x0, x1, x2, x3] = _
          unfold rowMg; rw [← HE.out, H1]; rfl
        have R3 : Hid (rowScore [x0, x1, x2, x3] = sc) := by
          show rowScore [x0, x1, x2, x3] = sc
          unfold rowScore; rw [← HE.out, H2]
        clear H1 H2 H HX HC HT HL HE
        simp only [W5] at hbw
        generalize (p.getD 0 (0, false)).1 = o0 at *
        generalize (p.getD 1 (0, false)).1 = o1 at *
        generalize (p.getD 2 (0, false)).1 = o2 at *
        generalize (p.getD 3 (0, false)).1 = o3 at *
        generalize (p.getD 0 (0, false)).2 = m0 at *
        generalize (p.getD 1 (0, false)).2 = m1 at *
        generalize (p.getD 2 (0, false)).2 = m2 at *
        generalize (p.getD 3 (0, false)).2 = m3 at *
        obtain ⟨hc, hff⟩ := bcell hbw
        go_wp2
        go_region
        go_wp2
        have hb0 : RowKit.Below w.heap.size w wr := Below.from0 (by go_grown) (by go_size) hbw
        refine bodyPost_ret (v := .tuple #[.agg #[.int .i64 o0, .int .i64 o1, .int .i64 o2, .int .i64 o3], .int .i64 sc, .agg #[.bool m0, .bool m1, .bool m2, .bool m3]]) (by simp [results, Try.results68, go_sem, hc]) rfl ?_
        exact ⟨o0, o1, o2, o3, m0, m1, m2, m3, R1.out, R2.out, by rw [R3.out], by clear hc hff; go_grown⟩
end Go.Proofs.Ytgkfhppmopmgjaa
