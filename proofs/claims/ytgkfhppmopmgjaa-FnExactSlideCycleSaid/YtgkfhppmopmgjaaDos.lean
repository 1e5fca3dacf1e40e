/- Walks of single functions of the given Go program, printed by a program of mine; each theorem says what the function returns. -/
import Derived.Test.YtgkfhppmopmgjaaRows
import Derived.WalkKit
import Derived.WalkSpells
import Derived.WalkLawsBesides
import Derived.Handy
import Derived.Deep.QuietTactic
import Derived.BigQuiet
import Derived.Lib.Hide
import Derived.Test.YtgkfhppmopmgjaaMade
import Derived.Test.YtgkfhppmopmgjaaIntS
import Derived.Test.YtgkfhppmopmgjaaEqs
import Derived.Test.YtgkfhppmopmgjaaOver
import Derived.Test.YtgkfhppmopmgjaaValid
import Derived.Test.YtgkfhppmopmgjaaOpen
import Derived.Deep.Cut
set_option linter.all false
namespace Go.Proofs.Ytgkfhppmopmgjaa
open Go.RowKit Pl Go.Lib Go.Shelf

/-- A slice of whole numbers that came in: nil, or a row of cap cells. -/
def IsRowS (w : World) (a : Option Addr) (len cap : Nat) (zs : List Int) : Prop :=
  (a = none ∧ len = 0 ∧ cap = 0 ∧ zs = []) ∨
  ∃ x, a = some x ∧ len ≤ cap ∧ cap ≤ maxLen ∧ zs.length = cap ∧ (∀ i, i < zs.length → w.cell? (x.add i) = some (.int .i64 (zs.getD i 0))) ∧ ∀ n ∈ zs, (Lit.int .i64 n).wf = true
theorem lt_of_cell {w : World} {a : Addr} {v : Value} (h : w.cell? a = some v) : a.block < w.heap.size := by
  rcases Nat.lt_or_ge a.block w.heap.size with h1 | h1
  · exact h1
  · have : w.heap[a.block]? = none := Array.getElem?_eq_none h1
    simp [World.cell?, this] at h
theorem rowS_view {w : World} {a : Option Addr} {len cap : Nat} {zs : List Int} (h : IsRowS w a len cap zs) (h0 : 0 < len) :
    ∃ b off, a = some ⟨b, off, none⟩ ∧ b < w.heap.size ∧ len ≤ zs.length ∧ ∀ j, j < zs.length → w.cell? ⟨b, off + j, none⟩ = some (.int .i64 (zs.getD j 0)) := by
  rcases h with ⟨_, h, _⟩ | ⟨x, rfl, hl, _, hz, hc, _⟩
  · omega
  · obtain ⟨b, off, rfl, hcc⟩ := Go.ints_at hc (by omega)
    exact ⟨b, off, rfl, lt_of_cell (hcc 0 (by omega)), by omega, hcc⟩
theorem rowS_below {w w' : World} {a : Option Addr} {len cap : Nat} {zs : List Int} (h : IsRowS w a len cap zs) (hb : Below w.heap.size w w') : IsRowS w' a len cap zs := by
  rcases h with h | ⟨x, rfl, hl, hm, hz, hc, hw⟩
  · exact .inl h
  · exact .inr ⟨x, rfl, hl, hm, hz, fun i hi => by rw [hb.cell (lt_of_cell (hc i hi))]; exact hc i hi, hw⟩
def RetRow (l : List Int) (B : Nat) (w : World) (e : Ending) (w' : World) : Prop :=
  ∃ g c, e = .returned (.slice (some ⟨g, 0, none⟩) l.length c) ∧ w'.ownsRow B 3 1 (.slice (some ⟨g, 0, none⟩) l.length c) l.length (l.map (Value.int .i64)) ∧ Below B w w'
theorem own_cells {W : World} {B g c : Nat} {l : List Int} (h : W.ownsRow B 3 1 (.slice (some ⟨g, 0, none⟩) l.length c) l.length (l.map (Value.int .i64))) :
    g < W.heap.size ∧ ∀ k, k < l.length → W.cell? ⟨g, k, none⟩ = some (.int .i64 (l.getD k 0)) := by
  have hh := h
  obtain ⟨_, ⟨h', _⟩ | ⟨g', cap, cur, h', hb, hblk, _⟩⟩ := h
  · cases h'
  · simp only [Value.slice.injEq, Option.some.injEq, Addr.mk.injEq, and_true, true_and] at h'
    obtain ⟨rfl, rfl⟩ := h'
    refine ⟨(Array.getElem?_eq_some_iff.1 hblk).1, fun k hk => ?_⟩
    rw [hh.cellAt k (by omega)]
    simp [hk]
set_option maxRecDepth 100000 in
theorem makeI {ops : Array Oper} {rest : List Oper} {a : Act} {w : World} {Q : Exit → Act → World → Prop} {dst : Option Tmp} {type : TypeId} {pos : String} {after : Array Edge} {x : Operand} {n : Nat}
    (hx : a.eval x = .int .i64 (n : Int)) (hn : n < 100000000)
    (h : ∀ w', w'.ownsRow w.heap.size 3 1 (.slice (some ⟨w.heap.size, 0, none⟩) n n) n ((List.replicate n (0 : Int)).map (Value.int .i64)) → Below w.heap.size w w' → wpList Try.prog ops Q rest (a.put dst (.slice (some ⟨w.heap.size, 0, none⟩) n n)) w') :
    wpList Try.prog ops Q (⟨dst, Op.makeSlice 34 x x, type, pos, after, none⟩ :: rest) a w := by
  obtain ⟨i0, hi, hz0, hz1, hz2⟩ := info_parts info3
  refine wpList_make_full w rfl x x 34 rfl w.heap.size 3 i0 (.int .i64 0) 1 Try.underlying34 hi hz0 hz1 .i64 .i64 n n n hx hx rfl rfl (by rw [hz2]; omega) (by unfold maxLen; omega) (Nat.le_refl _) ?_
  intro w' h1 h2
  refine h w' ?_ (Below.grown (Below.refl _ _) h2 (Nat.le_refl _) (fun k hk => by cases hk))
  simpa [toList_madeCells_one, Value.cells] using h1
def cpL (zs : List Int) (n j : Nat) : List Int := zs.take j ++ List.replicate (n - j) 0
theorem cpL_succ {zs : List Int} {n j : Nat} (hj : j < n) (hz : n ≤ zs.length) : cpL zs n (j + 1) = (cpL zs n j).set j (zs.getD j 0) := by
  unfold cpL
  have h1 : (zs.take j).length = j := by simp; omega
  rw [List.set_append_right _ _ (by omega), h1, Nat.sub_self, show n - j = (n - (j + 1)) + 1 by omega, List.replicate_succ, List.set_cons_zero]
  have h2 : zs.take (j + 1) = zs.take j ++ [zs.getD j 0] := by
    rw [List.take_succ, List.getElem?_eq_getElem (show j < zs.length by omega)]
    simp [show j < zs.length by omega]
  rw [h2, List.append_assoc]; rfl
theorem cpL_length {zs : List Int} {n j : Nat} (hj : j ≤ n) (hz : n ≤ zs.length) : (cpL zs n j).length = n := by
  unfold cpL; simp; omega
set_option maxRecDepth 100000 in
set_option maxHeartbeats 4000000 in
theorem toIntS_any (a : Option Addr) (len cap : Nat) (zs : List Int) (w : World) (hR : IsRowS w a len cap zs) (hn : len < 10000000) :
    Calls Try.prog 27 #[.slice a len cap] w (RetRow (zs.take len) w.heap.size w) := by
  by_cases h0 : len = 0
  · subst h0
    clear hR hn
    go_enter Try.func27, Try.ntmps27
    go_wp2_with (at_make; (with_reducible apply makeI (n := 0)); (focus with_unfolding_all exact rfl); (focus omega); (intro w1 hown hb1))
    refine wp_loop_rounds 1 ?_
    rw [rounds_succ]
    have HO := Lib.hid hown; clear hown
    go_wp2
    go_ret
    exact ⟨_, _, rfl, HO.out, hb1⟩
  · obtain ⟨b, off, rfl, hb, hz, hc⟩ := rowS_view hR (by omega)
    have HC := Lib.hid hc; clear hc hR
    go_enter Try.func27, Try.ntmps27
    go_wp2_with (at_make; (with_reducible apply makeI (n := len)); (focus with_unfolding_all exact rfl); (focus omega); (intro w1 hown hb1))
    have hs1 := hb1.size
    have hg1 : w.heap.size < w1.heap.size := by
      obtain ⟨_, ⟨h', _⟩ | ⟨g', cap, cur, h', _, hblk, _⟩⟩ := hown
      · cases h'
      · simp only [Value.slice.injEq, Option.some.injEq, Addr.mk.injEq, and_true, true_and] at h'
        obtain ⟨rfl, rfl⟩ := h'
        exact (Array.getElem?_eq_some_iff.1 hblk).1
    go_loopw [4] (fun v4 wr => ∃ j : Nat, j ≤ len ∧ v4 = .int .i64 j ∧ wr.ownsRow w.heap.size 3 1 (.slice (some ⟨w.heap.size, 0, none⟩) len len) len ((cpL zs len j).map (Value.int .i64)) ∧ Below w.heap.size w wr ∧ w.heap.size < wr.heap.size)
      (fun v4 _ => len - (intOf v4).toNat)
    case atStart => exact ⟨0, by omega, rfl, by simpa [cpL] using hown, hb1, hg1⟩
    case round =>
      clear hown hb1 hs1 hg1
      obtain ⟨j, hj, rfl, hown, hbel, hgw⟩ := hrel
      rcases Nat.lt_or_ge j len with hjn | hjn
      · have hfz := hown.frozenAt j
        have hst := hown.stored j (.int .i64 (zs.getD j 0))
        have hce := hown.cellAt j (by omega)
        rw [show (List.map (Value.int .i64) (cpL zs len j))[j]? = some (.int .i64 ((cpL zs len j).getD j 0)) by (have := cpL_length (zs := zs) (j := j) (n := len) (by omega) hz; simp [show j < (cpL zs len j).length by omega])] at hce
        have hsrc : wr.cell? ⟨b, off + j, none⟩ = some (.int .i64 (zs.getD j 0)) := by rw [hbel.cell (p := ⟨b, off + j, none⟩) hb, HC.out j (by omega)]
        have HS := Lib.hid hst; clear hst
        have HO := Lib.hid hown; clear hown
        generalize (cpL zs len j).getD j 0 = x at *
        obtain ⟨y, hy⟩ : ∃ y, y = zs.getD j 0 := ⟨_, rfl⟩
        rw [← hy] at hsrc HS
        have HY := Lib.hid hy; clear hy
        go_wp2
        go_roundw
        case rel =>
          refine ⟨j + 1, by omega, by go_num, ?_, hbel.setCell (Nat.le_refl _) _, by simpa [World.setCell] using hgw⟩
          rw [cpL_succ hjn hz, List.map_set, ← HY.out]
          exact HS.out.1
        case measure => simp [intOf]; omega
      · obtain rfl : j = len := by omega
        have HO := Lib.hid hown; clear hown
        go_wp2
        go_ret
        have hl : (zs.take j).length = j := by simp; omega
        refine ⟨w.heap.size, j, by rw [hl]; rfl, ?_, hbel⟩
        have h := HO.out
        rw [show cpL zs j j = zs.take j by simp [cpL]] at h
        rw [hl]; exact h
end Go.Proofs.Ytgkfhppmopmgjaa
