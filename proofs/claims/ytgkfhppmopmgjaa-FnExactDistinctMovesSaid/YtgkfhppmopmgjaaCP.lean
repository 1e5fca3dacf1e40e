/- Walks of single functions of the given Go program, printed by a program of mine; each theorem says what the function returns. -/
import Derived.Test.YtgkfhppmopmgjaaRows
import Derived.WalkKit
import Derived.WalkSpells
import Derived.WalkLawsBesides
import Derived.Handy
import Derived.Deep.QuietTactic
import Derived.BigQuiet
import Derived.Lib.Hide
import Derived.Test.YtgkfhppmopmgjaaSlidesL
import Derived.Test.YtgkfhppmopmgjaaOwnI
import Derived.Deep.Cut
set_option linter.all false
namespace Go.Proofs.Ytgkfhppmopmgjaa
open Go.RowKit Pl Go.Lib Go.Shelf

/-- An equation on Bools, where no tactic looks for one. -/
structure Hb (x y : Bool) : Prop where
  out : x = y
namespace Pl
def rowP (b : List Int) (k m : Nat) : List Int := ((List.range m).filter fun (e : Nat) => decide (k < e) && commB b k e).flatMap fun (e : Nat) => [(k : Int), (e : Int)]
def upP (b : List Int) (k : Nat) : List Int := (List.range k).flatMap fun (d : Nat) => rowP b d 4
def pairsB (b : List Int) : List Int := upP b 4
theorem rowP_start (b : List Int) (k : Nat) : rowP b k (k + 1) = [] := by
  unfold rowP
  rw [List.flatMap_eq_nil_iff]
  intro e he
  simp only [List.mem_filter, List.mem_range, Bool.and_eq_true, decide_eq_true_eq] at he
  omega
theorem rowP_hit {b : List Int} {k m : Nat} (hk : k < m) (h : commB b k m = true) : rowP b k (m + 1) = rowP b k m ++ [(k : Int), (m : Int)] := by
  simp [rowP, List.range_succ, List.filter_append, hk, h]
theorem rowP_miss {b : List Int} {k m : Nat} (h : commB b k m = false) : rowP b k (m + 1) = rowP b k m := by
  simp [rowP, List.range_succ, List.filter_append, h]
theorem upP_succ (b : List Int) (k : Nat) : upP b (k + 1) = upP b k ++ rowP b k 4 := by simp [upP, List.range_succ]
end Pl
theorem info73 : (Try.prog.info? 59).map (fun i => (i.zero, i.size, i.bytes)) = some (some (.agg #[.int .i64 0, .int .i64 0]), 2, 16) := by kernel_rfl
/-- A slice of pairs that calls have made: the numbers, two a pair. -/
def OwnP (w : World) (B : Nat) (v : Value) (l : List Int) : Prop := ∃ n, l.length = 2 * n ∧ w.ownsRow B 59 2 v n (l.map (Value.int .i64))
set_option maxRecDepth 100000 in
theorem appendP {ops : Array Oper} {rest : List Oper} {a : Act} {w : World} {Q : Exit → Act → World → Prop} {dst : Option Tmp} {type : TypeId} {pos : String} {after : Array Edge} {x y : Operand}
    {B : Nat} {v : Value} {l : List Int} {g : Nat} {p q : Int} (hown : OwnP w B v l) (hx : a.eval x = v) (hy : a.eval y = .slice (some ⟨g, 0, none⟩) 1 1)
    (hg : w.heap[g]? = some (.cells #[.int .i64 p, .int .i64 q] 59 (0, 0))) (hn : l.length < 1000000) (hB : B ≤ w.heap.size)
    (h : ∀ v' w', OwnP w' B v' (l ++ [p, q]) → Below B w w' → wpList Try.prog ops Q rest (a.put dst v') w') :
    wpList Try.prog ops Q (⟨dst, .call { callee := .builtin .append, args := #[x, y], argTypes := #[39, 39] }, type, pos, after, none⟩ :: rest) a w := by
  obtain ⟨n, hl, hown⟩ := hown
  obtain ⟨i0, hi, hz0, hz1, hz2⟩ := info_parts info73
  refine wpList_append_own w rfl x y 39 rfl B 59 i0 (.agg #[.int .i64 0, .int .i64 0]) 2 16 Try.underlying39 hi hz0 hz1 hz2 rfl (by decide) v n _ hx hown ⟨g, 0, none⟩ 1 1 [.int .i64 p, .int .i64 q] hy rfl ?_ ?_ ?_ ?_ hB ?_
  · intro j u hj
    match j, hj with
    | 0, hj =>
      simp only [List.getElem?_cons_zero, Option.some.injEq] at hj
      subst hj
      simp [Addr.add, World.cell?, hg]
    | 1, hj =>
      simp only [List.getElem?_cons_succ, List.getElem?_cons_zero, Option.some.injEq] at hj
      subst hj
      simp [Addr.add, World.cell?, hg]
  · intro u hu; simp at hu; rcases hu with rfl | rfl <;> rfl
  · unfold maxLen; omega
  · omega
  · intro v' w' h1 h2 _
    refine h v' w' ⟨n + 1, by simp [hl]; omega, by simpa using h1⟩ ?_
    refine Below.grown (Below.refl B w) h2 hB ?_
    intro g' hg'
    obtain ⟨_, ⟨rfl, _⟩ | ⟨g0, cap, cur, rfl, hb, _⟩⟩ := hown
    · simp [Value.ownBlock] at hg'
    · simp [Value.ownBlock] at hg'; omega
theorem ownP_junk {W : World} {B : Nat} {v : Value} {l : List Int} (h : OwnP W B v l) (d : Nat) (os : Array Obj) : OwnP (junk W d os) B v l := by
  obtain ⟨n, h1, h2⟩ := h; exact ⟨n, h1, own_junk h2 d os⟩
theorem ownP_alloc {W : World} {B : Nat} {v : Value} {l : List Int} (h : OwnP W B v l) (o : Obj) : OwnP (W.alloc o) B v l := by
  obtain ⟨n, h1, h2⟩ := h; exact ⟨n, h1, h2.alloc o⟩
theorem ownP_below {W W' : World} {B B' : Nat} {v : Value} {l : List Int} (h : OwnP W B v l) (hb : Below B' W W') (hB : W.heap.size ≤ B') : OwnP W' B v l := by
  obtain ⟨n, h1, h2⟩ := h; exact ⟨n, h1, own_below h2 hb hB⟩
theorem ownP_base {W : World} {B B' : Nat} {v : Value} {l : List Int} (h : OwnP W B v l) (hB : B' ≤ B) : OwnP W B' v l := by
  obtain ⟨n, h1, h2⟩ := h; exact ⟨n, h1, own_base h2 hB⟩
theorem ownP_nil (W : World) (B : Nat) : OwnP W B (.slice none 0 0) [] := ⟨0, rfl, World.ownsRow_nil _ _ _ _⟩
def RetPairs (l : List Int) (ok : Bool) (B : Nat) (w : World) (e : Ending) (w' : World) : Prop :=
  ∃ v, e = .returned (.tuple #[v, .bool ok]) ∧ OwnP w' B v l ∧ Below B w w'
def pairsOfB (b : List Int) : List Int := if okB b then pairsB b else []
theorem rowP_len (b : List Int) (k m : Nat) : (rowP b k m).length ≤ 2 * m := by
  induction m with
  | zero => simp [rowP]
  | succ m ih =>
    by_cases hk : k < m
    · cases h : commB b k m with
      | true => rw [rowP_hit hk h]; simp; omega
      | false => rw [rowP_miss h]; omega
    · have : rowP b k (m + 1) = rowP b k m := by simp [rowP, List.range_succ, List.filter_append, hk]
      rw [this]; omega
theorem upP_len (b : List Int) (k : Nat) : (upP b k).length ≤ 8 * k := by
  induction k with
  | zero => simp [upP]
  | succ k ih => rw [upP_succ]; have := rowP_len b k 4; simp; omega

set_option maxRecDepth 100000 in
set_option maxHeartbeats 4000000 in
theorem specCP_any (b : List Int) (hb : b.length = 16) (w : World) : Calls Try.prog 21 #[aggB b] w (RetPairs (pairsOfB b) (okB b) w.heap.size w) := by
  unfold pairsOfB
  cases hok : okB b with
  | false =>
    go_enter Try.func21, Try.ntmps21
    go_wp2_with (first | ((with_reducible apply loadB (n := 16) (ty := 28) Try.underlying28); (focus with_unfolding_all exact rfl); (focus ((repeat' (first | (with_reducible assumption) | ((with_reducible refine heap_new ?_); (focus ((try simp only [World.size_alloc, size_junk, size_setRow, Array.size_append]) <;> omega))) | ((with_reducible refine heap_old ?_ ?_); (focus ((try simp only [World.size_alloc, size_junk, size_setRow, Array.size_append]) <;> omega))) | ((with_reducible refine heap_junk ?_ ?_); (focus ((try simp only [World.size_alloc, size_junk, size_setRow, Array.size_append]) <;> omega))) | ((with_reducible apply heap_setRow_same)) | ((with_reducible refine heap_setRow_other ?_ ?_); (focus ((try simp only [World.size_alloc, size_junk, size_setRow, Array.size_append]) <;> omega))))); done)); (focus rfl); (focus kernel_rfl); (focus (first | (with_reducible assumption) | (with_reducible rfl) | (simp only [slideB_length, putL_length, rowOut_length, lineB_length, madeB_length, *]; done)))) | (go_at_call 33; refine (l2Board_list b hb _).mono ?_; rintro e w1 ⟨rfl, hb1⟩; obtain ⟨_, _, rfl⟩ := junk_of_below hb1; clear hb1))
    go_ret2
    exact ⟨_, rfl, ⟨0, rfl, own_empty (by ((try simp only [World.size_alloc, size_junk, size_setRow, Array.size_append]) <;> omega)) (by (repeat' (first | (with_reducible assumption) | ((with_reducible refine heap_new ?_); (focus ((try simp only [World.size_alloc, size_junk, size_setRow, Array.size_append]) <;> omega))) | ((with_reducible refine heap_old ?_ ?_); (focus ((try simp only [World.size_alloc, size_junk, size_setRow, Array.size_append]) <;> omega))) | ((with_reducible refine heap_junk ?_ ?_); (focus ((try simp only [World.size_alloc, size_junk, size_setRow, Array.size_append]) <;> omega))) | ((with_reducible apply heap_setRow_same)) | ((with_reducible refine heap_setRow_other ?_ ?_); (focus ((try simp only [World.size_alloc, size_junk, size_setRow, Array.size_append]) <;> omega))))))⟩, by (repeat' (first | (with_reducible exact RowKit.Below.refl _ _) | (with_reducible assumption) | (with_reducible refine Below.drewN ?_ _) | (with_reducible refine below_junk0 ?_ ?_ _ _) | (with_reducible refine RowKit.Below.alloc ?_ ?_ _) | (with_reducible refine below_setRow0 ?_ ?_) | (with_reducible refine RowKit.Below.setCell ?_ ?_ _) | (with_reducible refine RowKit.Below.drew ?_) | go_size | (simp only [size_junk]; go_size) | (simp only [World.size_alloc, size_junk, size_setRow]; omega) | omega))⟩
  | true =>
    have ok : okL b := (okB_iff b).1 hok
    simp only [if_true]
    go_enter Try.func21, Try.ntmps21
    go_wp2_with (first | ((with_reducible apply loadB (n := 16) (ty := 28) Try.underlying28); (focus with_unfolding_all exact rfl); (focus ((repeat' (first | (with_reducible assumption) | ((with_reducible refine heap_new ?_); (focus ((try simp only [World.size_alloc, size_junk, size_setRow, Array.size_append]) <;> omega))) | ((with_reducible refine heap_old ?_ ?_); (focus ((try simp only [World.size_alloc, size_junk, size_setRow, Array.size_append]) <;> omega))) | ((with_reducible refine heap_junk ?_ ?_); (focus ((try simp only [World.size_alloc, size_junk, size_setRow, Array.size_append]) <;> omega))) | ((with_reducible apply heap_setRow_same)) | ((with_reducible refine heap_setRow_other ?_ ?_); (focus ((try simp only [World.size_alloc, size_junk, size_setRow, Array.size_append]) <;> omega))))); done)); (focus rfl); (focus kernel_rfl); (focus (first | (with_reducible assumption) | (with_reducible rfl) | (simp only [slideB_length, putL_length, rowOut_length, lineB_length, madeB_length, *]; done)))) | (go_at_call 33; refine (l2Board_list b hb _).mono ?_; rintro e w1 ⟨rfl, hb1⟩; obtain ⟨_, _, rfl⟩ := junk_of_below hb1; clear hb1))
    go_loopw [4, 5] (fun v4 v5 wr => ∃ k : Nat, k ≤ 4 ∧ v5 = .int .i64 k ∧ wr.heap[w.heap.size]? = some (.cells (cellsB b) 28 (0, 0)) ∧ OwnP wr (w.heap.size + 1) v4 (upP b k) ∧ Below w.heap.size w wr ∧ w.heap.size + 1 ≤ wr.heap.size)
      (fun _ v5 _ => 4 - (intOf v5).toNat)
    case atStart => exact ⟨0, by omega, rfl, by (repeat' (first | (with_reducible assumption) | ((with_reducible refine heap_new ?_); (focus ((try simp only [World.size_alloc, size_junk, size_setRow, Array.size_append]) <;> omega))) | ((with_reducible refine heap_old ?_ ?_); (focus ((try simp only [World.size_alloc, size_junk, size_setRow, Array.size_append]) <;> omega))) | ((with_reducible refine heap_junk ?_ ?_); (focus ((try simp only [World.size_alloc, size_junk, size_setRow, Array.size_append]) <;> omega))) | ((with_reducible apply heap_setRow_same)) | ((with_reducible refine heap_setRow_other ?_ ?_); (focus ((try simp only [World.size_alloc, size_junk, size_setRow, Array.size_append]) <;> omega))))), ⟨0, rfl, own_empty (by ((try simp only [World.size_alloc, size_junk, size_setRow, Array.size_append]) <;> omega)) (by (repeat' (first | (with_reducible assumption) | ((with_reducible refine heap_new ?_); (focus ((try simp only [World.size_alloc, size_junk, size_setRow, Array.size_append]) <;> omega))) | ((with_reducible refine heap_old ?_ ?_); (focus ((try simp only [World.size_alloc, size_junk, size_setRow, Array.size_append]) <;> omega))) | ((with_reducible refine heap_junk ?_ ?_); (focus ((try simp only [World.size_alloc, size_junk, size_setRow, Array.size_append]) <;> omega))) | ((with_reducible apply heap_setRow_same)) | ((with_reducible refine heap_setRow_other ?_ ?_); (focus ((try simp only [World.size_alloc, size_junk, size_setRow, Array.size_append]) <;> omega))))))⟩, by (repeat' (first | (with_reducible exact RowKit.Below.refl _ _) | (with_reducible assumption) | (with_reducible refine Below.drewN ?_ _) | (with_reducible refine below_junk0 ?_ ?_ _ _) | (with_reducible refine RowKit.Below.alloc ?_ ?_ _) | (with_reducible refine below_setRow0 ?_ ?_) | (with_reducible refine RowKit.Below.setCell ?_ ?_ _) | (with_reducible refine RowKit.Below.drew ?_) | go_size | (simp only [size_junk]; go_size) | (simp only [World.size_alloc, size_junk, size_setRow]; omega) | omega)), by ((try simp only [World.size_alloc, size_junk, size_setRow, Array.size_append]) <;> omega)⟩
    case round =>
      obtain ⟨k, hk, rfl, hbox, hown, hbel, hlt⟩ := hrel
      rcases Nat.lt_or_ge k 4 with hk4 | hk4
      · have hdk : decide ((k : Int) < 4) = true := decide_eq_true (by omega)
        go_wp2_with fail
        clear hdk
        go_loopw [4, 6] (fun v4 v6 wr => ∃ e : Nat, k < e ∧ e ≤ 4 ∧ v6 = .int .i64 e ∧ wr.heap[w.heap.size]? = some (.cells (cellsB b) 28 (0, 0)) ∧ OwnP wr (w.heap.size + 1) v4 (upP b k ++ rowP b k e) ∧ Below w.heap.size w wr ∧ w.heap.size + 1 ≤ wr.heap.size)
          (fun _ v6 _ => 4 - (intOf v6).toNat)
        case atStart => exact ⟨k + 1, by omega, by omega, by go_num, hbox, by rw [rowP_start, List.append_nil]; exact hown, hbel, hlt⟩
        case round =>
          clear hbox hown hbel hlt
          obtain ⟨e, hke, he, rfl, hbox, hown, hbel, hlt⟩ := hrel
          rcases Nat.lt_or_ge e 4 with he4 | he4
          · cases hcm : commB b k e with
            | true =>
              have hcc := fun w => l3Commute_any b hb ok k e hk4 he4 w
              rw [hcm] at hcc
              have HCC := Lib.hid hcc; clear hcc
              have HM := Hb.mk hcm; clear hcm
              go_wp2_with (first | ((with_reducible apply loadB (n := 16) (ty := 28) Try.underlying28); (focus with_unfolding_all exact rfl); (focus ((repeat' (first | (with_reducible assumption) | ((with_reducible refine heap_new ?_); (focus ((try simp only [World.size_alloc, size_junk, size_setRow, Array.size_append]) <;> omega))) | ((with_reducible refine heap_old ?_ ?_); (focus ((try simp only [World.size_alloc, size_junk, size_setRow, Array.size_append]) <;> omega))) | ((with_reducible refine heap_junk ?_ ?_); (focus ((try simp only [World.size_alloc, size_junk, size_setRow, Array.size_append]) <;> omega))) | ((with_reducible apply heap_setRow_same)) | ((with_reducible refine heap_setRow_other ?_ ?_); (focus ((try simp only [World.size_alloc, size_junk, size_setRow, Array.size_append]) <;> omega))))); done)); (focus rfl); (focus kernel_rfl); (focus (first | (with_reducible assumption) | (with_reducible rfl) | (simp only [slideB_length, putL_length, rowOut_length, lineB_length, madeB_length, *]; done)))) | (go_at_call 42; refine (HCC.out _).mono ?_; rintro e' w1 ⟨rfl, hb1⟩; obtain ⟨_, _, rfl⟩ := junk_of_below hb1; clear hb1) | (at_builtin; go_must ((with_reducible apply appendP (B := w.heap.size + 1)); (focus ((repeat' (first | (with_reducible assumption) | (with_reducible apply ownP_junk) | (with_reducible apply ownP_alloc))); done)); (focus with_unfolding_all exact rfl); (focus with_unfolding_all exact rfl); (focus ((repeat' (first | (with_reducible assumption) | ((with_reducible refine heap_new ?_); (focus ((try simp only [World.size_alloc, size_junk, size_setRow, Array.size_append]) <;> omega))) | ((with_reducible refine heap_old ?_ ?_); (focus ((try simp only [World.size_alloc, size_junk, size_setRow, Array.size_append]) <;> omega))) | ((with_reducible refine heap_junk ?_ ?_); (focus ((try simp only [World.size_alloc, size_junk, size_setRow, Array.size_append]) <;> omega))) | ((with_reducible apply heap_setRow_same)) | ((with_reducible refine heap_setRow_other ?_ ?_); (focus ((try simp only [World.size_alloc, size_junk, size_setRow, Array.size_append]) <;> omega))))); done)); (focus (have := upP_len b k; have := rowP_len b k e; simp only [List.length_append]; omega)); (focus ((try simp only [World.size_alloc, size_junk, size_setRow, Array.size_append]) <;> omega)); ((intro v1 w2 hown1 hb2); (have hbox1 : w2.heap[w.heap.size]? = some (.cells (cellsB b) 28 (0, 0)) := (hb2.block _ (Nat.lt_succ_self _)).trans (by (repeat' (first | (with_reducible assumption) | ((with_reducible refine heap_new ?_); (focus ((try simp only [World.size_alloc, size_junk, size_setRow, Array.size_append]) <;> omega))) | ((with_reducible refine heap_old ?_ ?_); (focus ((try simp only [World.size_alloc, size_junk, size_setRow, Array.size_append]) <;> omega))) | ((with_reducible refine heap_junk ?_ ?_); (focus ((try simp only [World.size_alloc, size_junk, size_setRow, Array.size_append]) <;> omega))) | ((with_reducible apply heap_setRow_same)) | ((with_reducible refine heap_setRow_other ?_ ?_); (focus ((try simp only [World.size_alloc, size_junk, size_setRow, Array.size_append]) <;> omega))))))); (have hbel1 : Below w.heap.size w w2 := Below.trans (by (repeat' (first | (with_reducible exact RowKit.Below.refl _ _) | (with_reducible assumption) | (with_reducible refine Below.drewN ?_ _) | (with_reducible refine below_junk0 ?_ ?_ _ _) | (with_reducible refine RowKit.Below.alloc ?_ ?_ _) | (with_reducible refine below_setRow0 ?_ ?_) | (with_reducible refine RowKit.Below.setCell ?_ ?_ _) | (with_reducible refine RowKit.Below.drew ?_) | go_size | (simp only [size_junk]; go_size) | (simp only [World.size_alloc, size_junk, size_setRow]; omega) | omega))) (hb2.mono (by omega))); (have hlt1 : w.heap.size + 1 ≤ w2.heap.size := Nat.le_trans (by ((try simp only [World.size_alloc, size_junk, size_setRow, Array.size_append]) <;> omega)) hb2.size); (clear hb2 hbox hown hbel hlt)))))
              go_roundw
              case rel => exact ⟨e + 1, by omega, by omega, by go_num, by assumption, by rw [rowP_hit hke HM.out, ← List.append_assoc]; assumption, by assumption, by assumption⟩
              case measure => simp [intOf]; omega
            | false =>
              have hcc := fun w => l3Commute_any b hb ok k e hk4 he4 w
              rw [hcm] at hcc
              have HCC := Lib.hid hcc; clear hcc
              have HM := Hb.mk hcm; clear hcm
              go_wp2_with (first | ((with_reducible apply loadB (n := 16) (ty := 28) Try.underlying28); (focus with_unfolding_all exact rfl); (focus ((repeat' (first | (with_reducible assumption) | ((with_reducible refine heap_new ?_); (focus ((try simp only [World.size_alloc, size_junk, size_setRow, Array.size_append]) <;> omega))) | ((with_reducible refine heap_old ?_ ?_); (focus ((try simp only [World.size_alloc, size_junk, size_setRow, Array.size_append]) <;> omega))) | ((with_reducible refine heap_junk ?_ ?_); (focus ((try simp only [World.size_alloc, size_junk, size_setRow, Array.size_append]) <;> omega))) | ((with_reducible apply heap_setRow_same)) | ((with_reducible refine heap_setRow_other ?_ ?_); (focus ((try simp only [World.size_alloc, size_junk, size_setRow, Array.size_append]) <;> omega))))); done)); (focus rfl); (focus kernel_rfl); (focus (first | (with_reducible assumption) | (with_reducible rfl) | (simp only [slideB_length, putL_length, rowOut_length, lineB_length, madeB_length, *]; done)))) | (go_at_call 42; refine (HCC.out _).mono ?_; rintro e' w1 ⟨rfl, hb1⟩; obtain ⟨_, _, rfl⟩ := junk_of_below hb1; clear hb1) | (at_builtin; go_must ((with_reducible apply appendP (B := w.heap.size + 1)); (focus ((repeat' (first | (with_reducible assumption) | (with_reducible apply ownP_junk) | (with_reducible apply ownP_alloc))); done)); (focus with_unfolding_all exact rfl); (focus with_unfolding_all exact rfl); (focus ((repeat' (first | (with_reducible assumption) | ((with_reducible refine heap_new ?_); (focus ((try simp only [World.size_alloc, size_junk, size_setRow, Array.size_append]) <;> omega))) | ((with_reducible refine heap_old ?_ ?_); (focus ((try simp only [World.size_alloc, size_junk, size_setRow, Array.size_append]) <;> omega))) | ((with_reducible refine heap_junk ?_ ?_); (focus ((try simp only [World.size_alloc, size_junk, size_setRow, Array.size_append]) <;> omega))) | ((with_reducible apply heap_setRow_same)) | ((with_reducible refine heap_setRow_other ?_ ?_); (focus ((try simp only [World.size_alloc, size_junk, size_setRow, Array.size_append]) <;> omega))))); done)); (focus (have := upP_len b k; have := rowP_len b k e; simp only [List.length_append]; omega)); (focus ((try simp only [World.size_alloc, size_junk, size_setRow, Array.size_append]) <;> omega)); ((intro v1 w2 hown1 hb2); (have hbox1 : w2.heap[w.heap.size]? = some (.cells (cellsB b) 28 (0, 0)) := (hb2.block _ (Nat.lt_succ_self _)).trans (by (repeat' (first | (with_reducible assumption) | ((with_reducible refine heap_new ?_); (focus ((try simp only [World.size_alloc, size_junk, size_setRow, Array.size_append]) <;> omega))) | ((with_reducible refine heap_old ?_ ?_); (focus ((try simp only [World.size_alloc, size_junk, size_setRow, Array.size_append]) <;> omega))) | ((with_reducible refine heap_junk ?_ ?_); (focus ((try simp only [World.size_alloc, size_junk, size_setRow, Array.size_append]) <;> omega))) | ((with_reducible apply heap_setRow_same)) | ((with_reducible refine heap_setRow_other ?_ ?_); (focus ((try simp only [World.size_alloc, size_junk, size_setRow, Array.size_append]) <;> omega))))))); (have hbel1 : Below w.heap.size w w2 := Below.trans (by (repeat' (first | (with_reducible exact RowKit.Below.refl _ _) | (with_reducible assumption) | (with_reducible refine Below.drewN ?_ _) | (with_reducible refine below_junk0 ?_ ?_ _ _) | (with_reducible refine RowKit.Below.alloc ?_ ?_ _) | (with_reducible refine below_setRow0 ?_ ?_) | (with_reducible refine RowKit.Below.setCell ?_ ?_ _) | (with_reducible refine RowKit.Below.drew ?_) | go_size | (simp only [size_junk]; go_size) | (simp only [World.size_alloc, size_junk, size_setRow]; omega) | omega))) (hb2.mono (by omega))); (have hlt1 : w.heap.size + 1 ≤ w2.heap.size := Nat.le_trans (by ((try simp only [World.size_alloc, size_junk, size_setRow, Array.size_append]) <;> omega)) hb2.size); (clear hb2 hbox hown hbel hlt)))))
              go_roundw
              case rel => exact ⟨e + 1, by omega, by omega, by go_num, by (repeat' (first | (with_reducible assumption) | ((with_reducible refine heap_new ?_); (focus ((try simp only [World.size_alloc, size_junk, size_setRow, Array.size_append]) <;> omega))) | ((with_reducible refine heap_old ?_ ?_); (focus ((try simp only [World.size_alloc, size_junk, size_setRow, Array.size_append]) <;> omega))) | ((with_reducible refine heap_junk ?_ ?_); (focus ((try simp only [World.size_alloc, size_junk, size_setRow, Array.size_append]) <;> omega))) | ((with_reducible apply heap_setRow_same)) | ((with_reducible refine heap_setRow_other ?_ ?_); (focus ((try simp only [World.size_alloc, size_junk, size_setRow, Array.size_append]) <;> omega))))), by rw [rowP_miss HM.out]; (repeat' (first | (with_reducible assumption) | (with_reducible apply ownP_junk) | (with_reducible apply ownP_alloc))), by (repeat' (first | (with_reducible exact RowKit.Below.refl _ _) | (with_reducible assumption) | (with_reducible refine Below.drewN ?_ _) | (with_reducible refine below_junk0 ?_ ?_ _ _) | (with_reducible refine RowKit.Below.alloc ?_ ?_ _) | (with_reducible refine below_setRow0 ?_ ?_) | (with_reducible refine RowKit.Below.setCell ?_ ?_ _) | (with_reducible refine RowKit.Below.drew ?_) | go_size | (simp only [size_junk]; go_size) | (simp only [World.size_alloc, size_junk, size_setRow]; omega) | omega)), by ((try simp only [World.size_alloc, size_junk, size_setRow, Array.size_append]) <;> omega)⟩
              case measure => simp [intOf]; omega
          · obtain rfl : e = 4 := by omega
            go_wp2
            go_roundw
            case rel => exact ⟨k + 1, by omega, by go_num, hbox, by rw [upP_succ]; exact hown, hbel, hlt⟩
            case measure => simp [intOf]; omega
      · obtain rfl : k = 4 := by omega
        go_wp2
        go_ret2
        exact ⟨_, rfl, ownP_base hown (by omega), hbel⟩
end Go.Proofs.Ytgkfhppmopmgjaa
