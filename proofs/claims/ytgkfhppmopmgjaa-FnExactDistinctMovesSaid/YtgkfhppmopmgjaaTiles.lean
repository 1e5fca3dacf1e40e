/- impl.tiles: the tiles of a row, in memory of the call's own. -/
import Derived.Test.YtgkfhppmopmgjaaRows
import Derived.Test.YtgkfhppmopmgjaaShelf
import Derived.Test.YtgkfhppmopmgjaaBase
import Derived.WalkKit
import Derived.WalkSpells
import Derived.WalkLawsBesides
import Derived.Handy
set_option linter.all false
namespace Go.Proofs.Ytgkfhppmopmgjaa
open Go.RowKit Pl Go.Sort Go.Lib Go.Shelf

theorem zero_gives (x : Int) (W : World) : FnGives Try.prog 94 #[] #[.int .i64 x] (.bool (decide (x = 0))) W := by
  show Calls Try.prog 94 #[.int .i64 x] W _
  by_cases h : x = 0
  · subst h
    go_enter Try.func94, Try.ntmps94
    go_wp2
    go_ret
    exact ⟨rfl, 0, rfl⟩
  · have hb : (x == 0) = false := by simpa using h
    go_enter Try.func94, Try.ntmps94
    go_wp2
    go_ret
    exact ⟨by simp [h], 0, rfl⟩

theorem ints_of {xs ys : List Int} (h : xs = ys) : xs.map (Value.int .i64) = ys.map (Value.int .i64) := by rw [h]

/-- A slice of whole numbers in memory of the call's own. -/
def RetInts (l : List Int) (B : Nat) (w : World) (e : Ending) (w' : World) : Prop :=
  ∃ v, e = .returned v ∧ w'.ownsRow B 3 1 v l.length (l.map (Value.int .i64)) ∧ Below B w w'

theorem own_put {w1 : World} {g cap B : Nat} {e : TypeId} {cur : Array Value} (hblk : w1.heap[g]? = some (.cells cur e (0, 0))) (hs : cur.size = cap) (hm : cap ≤ maxLen) (hB : B ≤ g)
    (d : Array Int) (hd : d.size ≤ cap) (n : Nat) (hn : n ≤ d.size) (q : Nat) :
    (putRow (Value.int .i64) (Sort.ahead w1 q) g 0 d).ownsRow B e 1 (.slice (some ⟨g, 0, none⟩) n cap) n ((d.toList.take n).map (Value.int .i64)) := by
  refine ⟨by simp; omega, .inr ⟨g, cap, putCells (Value.int .i64) 0 d cur, rfl, hB, ?_, by omega, hm, by simp [putCells, hs], ?_⟩⟩
  · simp only [putRow, mapBlock, Sort.ahead, Array.getElem?_modify, hblk]
    simp [onCells]
  · apply List.ext_getElem?
    intro k
    simp only [putCells, Nat.mul_one, List.getElem?_take, List.getElem?_map, Array.getElem?_toList, Array.getElem?_mapIdx]
    by_cases hk : k < n
    · rw [if_pos hk, if_pos hk, Array.getElem?_eq_getElem (by omega), Array.getElem?_eq_getElem (by omega)]
      simp only [Option.map_some]
      rw [if_pos ⟨by omega, by omega⟩]
      simp [getElem!_pos d k (by omega)]
    · rw [if_neg hk, if_neg hk]; rfl
theorem holds_of {w1 : World} {g : Nat} {e : TypeId} {cur : Array Value} {xs : List Int} (hblk : w1.heap[g]? = some (.cells cur e (0, 0))) 
    (htk : cur.toList.take (xs.length * 1) = xs.map (Value.int .i64)) : Holds (Value.int .i64) w1 g 0 xs.toArray := by
  intro j hj
  have hj' : j < xs.length := by simpa using hj
  have h1 : cur[j]? = some (.int .i64 xs[j]) := by
    have := congrArg (fun l => l[j]?) htk
    simp only [Nat.mul_one, List.getElem?_take, hj', if_true, List.getElem?_map, List.getElem?_eq_getElem hj', Option.map_some, Array.getElem?_toList] at this
    exact this
  refine ⟨?_, ?_⟩
  · simp only [World.cell?, hblk, Nat.zero_add]
    simp only [Option.isSome_none, Bool.false_eq_true, if_false, h1]
    simp [getElem!_pos xs.toArray j (by simpa using hj')]
  · simp only [World.frozen?, hblk]; simp
theorem cells_of {w1 : World} {g : Nat} {e : TypeId} {cur : Array Value} {xs : List Int} (hblk : w1.heap[g]? = some (.cells cur e (0, 0)))
    (htk : cur.toList.take (xs.length * 1) = xs.map (Value.int .i64)) : ∀ j (h : j < xs.length), w1.cell? ⟨g, j, none⟩ = some (.int .i64 xs[j]) := by
  intro j hj'
  have h1 : cur[j]? = some (.int .i64 xs[j]) := by
    have := congrArg (fun l => l[j]?) htk
    simp only [Nat.mul_one, List.getElem?_take, hj', if_true, List.getElem?_map, List.getElem?_eq_getElem hj', Option.map_some, Array.getElem?_toList] at this
    exact this
  simp only [World.cell?, hblk]
  simp only [Option.isSome_none, Bool.false_eq_true, if_false, h1]
theorem below_put {B : Nat} {w w1 : World} (h : RowKit.Below B w w1) {g : Nat} (hg : B ≤ g) (enc : Int → Value) (q : Nat) (d : Array Int) : RowKit.Below B w (putRow enc (Sort.ahead w1 q) g 0 d) := by
  refine ⟨h.os, h.tape, h.output, by simpa [putRow, mapBlock, Sort.ahead] using h.size, fun k hk => ?_⟩
  rw [← h.block k hk]
  simp only [putRow, mapBlock, Sort.ahead, Array.getElem?_modify]
  rw [if_neg (by omega)]
theorem filter_ne (l : List Int) : (l.filter fun x => !decide (x = 0)) = tilesL l := by
  unfold tilesL; congr 1

set_option maxHeartbeats 1000000 in
theorem tiles_any (x0 x1 x2 x3 : Int) (w : World) :
    Calls Try.prog 85 #[.agg #[.int .i64 x0, .int .i64 x1, .int .i64 x2, .int .i64 x3]] w (RetInts (tilesL [x0, x1, x2, x3]) w.heap.size w) := by
  have eg : ∀ args w, (callFunc 94 args).run Try.prog w = .ok (.enter 94 args) w := enters_of Try.func94 (by kernel_rfl) rfl
  go_enter Try.func85, Try.ntmps85
  go_wp2_with fail
  refine (Try.slices_Clone_int w.heap.size 0 4 4 [x0, x1, x2, x3] _ (by simp) (by omega) (fun j hj => ?_)).mono ?_
  · match j, hj with
    | 0, _ => simp
    | 1, _ => simp
    | 2, _ => simp
    | 3, _ => simp
  · rintro e w1 ⟨v', rfl, hown, hne, hb⟩
    obtain ⟨hl, ⟨hn, _⟩ | ⟨g, cap, cur, rfl, hbg, hblk, h4, hcap, hsz, htk⟩⟩ := hown
    · exact absurd hn hne
    have hg : g < w1.heap.size := (Array.getElem?_eq_some_iff.1 hblk).1
    have hgs : w.heap.size < g := by simp at hbg; omega
    have hH : Holds (Value.int .i64) w1 g 0 #[x0, x1, x2, x3] := holds_of (xs := [x0, x1, x2, x3]) hblk (by simpa using htk)
    have hcon := Try.slices_DeleteFunc (Value.int .i64) (fun _ => rfl) (fun x => decide (x = 0)) 94 #[] eg 0 Try.zeroValue3 g 0 cap #[x0, x1, x2, x3] w1
      (fun W x _ => zero_gives x W) (fun n os dk x _ => zero_gives x _) hH (by simp) (by simpa using h4)
    have HB := Lib.hid hblk
    have HS := Lib.hid hsz
    clear hblk hsz htk hl hne hH
    rw [filter_ne] at hcon
    have hlen : (tilesL [x0, x1, x2, x3]).length ≤ 4 := List.length_filter_le _ _
    obtain ⟨ts, hts⟩ : ∃ ts, ts = tilesL [x0, x1, x2, x3] := ⟨_, rfl⟩
    rw [← hts] at hcon hlen
    have HT := Lib.hid hts
    clear hts
    go_wp2_with fail
    refine hcon.mono ?_
    rintro e w2 ⟨rfl, q, rfl⟩
    go_wp2_with fail
    go_ret
    rw [← HT.out]
    refine ⟨_, rfl, ?_, below_put (((Below.refl _ _).alloc (Nat.le_refl _) _).trans (hb.mono (by simp))) (by omega) _ _ _⟩
    have h := own_put (B := w.heap.size) HB.out (by simpa using HS.out) hcap (by omega) (ts ++ List.replicate (4 - ts.length) 0).toArray (by simp; omega) ts.length (by simp) q
    simpa using h
end Go.Proofs.Ytgkfhppmopmgjaa
