/- Walks of the helpers over slices of strings, and of both JoinStrings; each theorem says what the function returns. -/
import Derived.Test.YtojanfcmhalfkaaRows
import Derived.Test.YtojanfcmhalfkaaShelf
import Derived.Test.YtojanfcmhalfkaaPs
import Derived.WalkKit
import Derived.WalkSpells
import Derived.WalkLawsBesides
import Derived.Handy
import Derived.Deep.QuietTactic
import Derived.BigQuiet
import Derived.Deep.Cut
import Derived.Lib.Hide
import Derived.Lib.IndexLaws
import Derived.Lib.SplitLaws
import Derived.OwnWalk
import Derived.Laws.OwnMore
import Derived.Sort.Grow
set_option linter.all false
namespace Go.Proofs.Ytojanfcmhalfkaa
open Go.RowKit Ps

theorem belN {B : Nat} {w W : World} (h : Below B w W) (n : Nat) : Below B w (W.drewN n) := ⟨h.os, h.tape, h.output, h.size, h.block⟩
theorem bel0 {B : Nat} {w W w1 : World} (h : Below B w W) (hB : B ≤ W.heap.size) (h1 : Below W.heap.size W w1) : Below B w w1 := h.trans (h1.mono hB)
/-- A slice of strings reads as ss. -/
def StrsAt (w : World) (a : Option Addr) (n : Nat) (ss : List ByteArray) : Prop :=
  ss.length = n ∧ (0 < n → ∃ b off, a = some ⟨b, off, none⟩ ∧ b < w.heap.size ∧ ∀ j, j < n → w.cell? ⟨b, off + j, none⟩ = some (.string (ss.getD j ByteArray.empty)))
theorem StrsAt.below {w w' : World} {a : Option Addr} {n : Nat} {ss : List ByteArray} (h : StrsAt w a n ss) (hb : Below w.heap.size w w') : StrsAt w' a n ss :=
  ⟨h.1, fun hn => by
    obtain ⟨b, off, e, hl, hc⟩ := h.2 hn
    exact ⟨b, off, e, Nat.lt_of_lt_of_le hl hb.size, fun j hj => by rw [hb.cell (p := ⟨b, off + j, none⟩) hl]; exact hc j hj⟩⟩
def Sizes (ss : List ByteArray) : Prop := ∀ s ∈ ss, s.size ≤ 9223372036854775807
theorem Sizes.at {ss : List ByteArray} (h : Sizes ss) (k : Nat) : (ss.getD k ByteArray.empty).size ≤ 9223372036854775807 := by
  rw [List.getD_eq_getElem?_getD]
  rcases Nat.lt_or_ge k ss.length with hk | hk
  · rw [List.getElem?_eq_getElem hk]; exact h _ (List.getElem_mem hk)
  · rw [List.getElem?_eq_none hk]; simp
theorem ret_int {k : IntKind} {a b : Int} (h : a = b) : Ending.returned (.int k a) = .returned (.int k b) := by rw [h]
theorem ret_bool {a b : Bool} (h : a = b) : Ending.returned (.bool a) = .returned (.bool b) := by rw [h]
theorem info9 : (Try.prog.info? 9).map (fun i => (i.zero, i.size, i.bytes)) = some (some (.string ByteArray.empty), 1, 16) := by kernel_rfl

set_option maxRecDepth 100000 in
set_option maxHeartbeats 4000000 in
theorem sz_any (ss : List ByteArray) (a : Option Addr) (n c : Nat) (w : World) (hR : StrsAt w a n ss) (hz : Sizes ss) (hn : n ≤ 9223372036854775807) :
    Calls Try.prog 4 #[.slice a n c, .int .i64 1048576] w fun e w' => w = w' ∧ ∃ r : Int, e = .returned (.int .i64 r) ∧ (0 ≤ r → n ≤ 1048576 ∧ sumJ ss n ≤ 1048576) := by
  have HA := Lib.hid hR.2
  have HZ := Lib.hid (fun k => hz.at k)
  clear hR hz
  by_cases hbig : 1048576 < n
  · go_enter Try.func4, Try.ntmps4
    go_wp2
    go_ret
    exact ⟨rfl, -1, rfl, by omega⟩
  · go_enter Try.func4, Try.ntmps4
    go_wp2
    go_loop [1, 5] (fun v1 v5 => ∃ k : Nat, k ≤ n ∧ v5 = .int .i64 k ∧ v1 = .int .i64 (1048576 - n - (sumJ ss k : Nat)) ∧ n + sumJ ss k ≤ 1048576) (fun _ v5 => n - (intOf v5).toNat)
    case atStart => exact ⟨0, by omega, rfl, by simp [sumJ], by simp [sumJ]; omega⟩
    case round =>
      obtain ⟨k, hk, rfl, rfl, hs⟩ := hrel
      rcases Nat.lt_or_ge k n with hkn | hkn
      · obtain ⟨b, off, rfl, _, hc⟩ := HA.out (by omega)
        have hck := hc k hkn
        have hsz := HZ.out k
        have HS : Hid (sumJ ss (k + 1) = sumJ ss k + (ss.getD k ByteArray.empty).size) := Lib.hid rfl
        clear hc
        revert hck hsz HS
        generalize ss.getD k ByteArray.empty = x
        intro hck hsz HS
        by_cases hle : n + sumJ ss k + x.size ≤ 1048576
        · go_wp2
          go_round
          case rel => exact ⟨k + 1, by omega, by go_num, by rw [HS.out]; go_num, by rw [HS.out]; omega⟩
          case measure => simp [intOf]; omega
        · go_wp2
          go_ret
          exact ⟨rfl, -1, rfl, by omega⟩
      · obtain rfl : k = n := by omega
        go_wp2
        go_ret
        exact ⟨rfl, _, rfl, fun _ => ⟨by omega, by omega⟩⟩

theorem stands_no {s : ByteArray} {c : UInt8} (h : ∀ j (hj : j < s.size), s[j] ≠ c) : stands s c = false := by
  unfold stands
  cases hh : s.data.toList.contains c with
  | false => rfl
  | true =>
    have hm := List.contains_iff_mem.1 hh
    obtain ⟨j, hj, he⟩ := List.mem_iff_getElem.1 hm
    exact absurd he (h j (by simpa using hj))
theorem stands_yes {s : ByteArray} {c : UInt8} {j : Nat} (hj : j < s.size) (h : s[j] = c) : stands s c = true := by
  unfold stands
  rw [List.contains_iff_mem, ← h]
  exact List.mem_iff_getElem.2 ⟨j, by simpa using hj, rfl⟩
theorem u8_eq {a c : UInt8} : ((a.toNat : Int) = (c.toNat : Int)) ↔ a = c := by
  constructor
  · intro h; exact UInt8.toNat_inj.1 (by omega)
  · rintro rfl; rfl
set_option maxRecDepth 100000 in
set_option maxHeartbeats 4000000 in
theorem l1Stands_any (s : ByteArray) (c : UInt8) (w : World) (hs : s.size ≤ 9223372036854775807) : Calls Try.prog 9 #[.string s, .int .u8 c.toNat] w fun e w' => e = .returned (.bool (stands s c)) ∧ w = w' := by
  go_enter Try.func9, Try.ntmps9
  go_wp2
  go_loop [5] (fun v5 => ∃ k : Nat, k ≤ s.size ∧ v5 = .int .i64 k ∧ ∀ j (hj : j < s.size), j < k → s[j] ≠ c) (fun v5 => s.size - (intOf v5).toNat)
  case atStart => exact ⟨0, by omega, rfl, by omega⟩
  case round =>
    obtain ⟨k, hk, rfl, hno⟩ := hrel
    have HNO := Lib.hid hno; clear hno
    by_cases hlt : k < s.size
    · by_cases he : s[k] = c
      · have hd : decide (((s[k]).toNat : Int) = (c.toNat : Int)) = true := decide_eq_true (u8_eq.2 he)
        have hd2 : (((s[k]).toNat : Int) == (c.toNat : Int)) = true := by simpa using hd
        have HE := Lib.hid he; clear he
        go_wp2
        go_ret
        exact ⟨ret_bool (stands_yes hlt HE.out).symm, rfl⟩
      · have hd : decide (((s[k]).toNat : Int) = (c.toNat : Int)) = false := decide_eq_false (fun h => he (u8_eq.1 h))
        have hd2 : (((s[k]).toNat : Int) == (c.toNat : Int)) = false := by simpa using hd
        have HE := Lib.hid he; clear he
        go_wp2
        go_round
        case rel => exact ⟨k + 1, by omega, by go_num, fun j hj hjk => by (by_cases h2 : j < k; exact HNO.out j hj h2; (obtain rfl : j = k := by omega); exact HE.out)⟩
        case measure => simp [intOf]; omega
    · go_wp2
      go_ret
      exact ⟨ret_bool (stands_no (fun j hj => HNO.out j hj (by omega))).symm, rfl⟩
end Go.Proofs.Ytojanfcmhalfkaa
