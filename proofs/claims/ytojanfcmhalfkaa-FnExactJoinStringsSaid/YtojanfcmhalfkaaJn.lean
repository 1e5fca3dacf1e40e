/- Walks of toStringS, eqStringS and both JoinStrings; each theorem says what the function returns. -/
import Derived.Test.YtojanfcmhalfkaaRows
import Derived.Test.YtojanfcmhalfkaaShelf
import Derived.Test.YtojanfcmhalfkaaPs
import Derived.Test.YtojanfcmhalfkaaStrW
import Derived.WalkKit
import Derived.WalkSpells
import Derived.WalkLawsBesides
import Derived.Handy
import Derived.Deep.QuietTactic
import Derived.BigQuiet
import Derived.Deep.Cut
import Derived.Lib.Hide
import Derived.Lib.IndexLaws
import Derived.Lib.SplitLaws
import Derived.OwnWalk
import Derived.Laws.OwnMore
import Derived.Sort.Grow
set_option linter.all false
namespace Go.Proofs.Ytojanfcmhalfkaa
open Go.RowKit Ps

theorem grown_below {B : Nat} {w w' : World} (h : w.grownBy w' none) (hB : B ≤ w.heap.size) : Below B w w' := Below.grown (Below.refl B w) h hB (fun g hg => by cases hg)
theorem makeT {ops : Array Oper} {rest : List Oper} {a : Act} {w : World} {Q : Exit → Act → World → Prop} {dst : Option Tmp} {type : TypeId} {pos : String} {after : Array Edge} {x y : Operand} {n : Nat}
    (hx : a.eval x = .int .i64 n) (hy : a.eval y = .int .i64 n) (hn : n ≤ 1048576)
    (h : ∀ w', w'.ownsRow w.heap.size 9 1 (.slice (some ⟨w.heap.size, 0, none⟩) n n) n (madeCells (Value.string ByteArray.empty).cells (n * 1)).toList → Below w.heap.size w w' → wpList Try.prog ops Q rest (a.put dst (.slice (some ⟨w.heap.size, 0, none⟩) n n)) w') :
    wpList Try.prog ops Q (⟨dst, .makeSlice 22 x y, type, pos, after, none⟩ :: rest) a w := by
  obtain ⟨i0, hi, hz0, hz1, hz2⟩ := info_parts info9
  exact wpList_make_full w rfl x y 22 rfl w.heap.size 9 i0 (.string ByteArray.empty) 1 Try.underlying22 hi hz0 hz1 .i64 .i64 n n n hx hy rfl rfl (by rw [hz2]; omega) (by unfold maxLen; omega) (Nat.le_refl _) (fun w' h1 h2 => h w' h1 (grown_below h2 (Nat.le_refl _)))
set_option maxRecDepth 100000 in
set_option maxHeartbeats 4000000 in
theorem toStringS_any (ss : List ByteArray) (a : Option Addr) (n c : Nat) (w : World) (hR : StrsAt w a n ss) (hn : n ≤ 1048576) :
    Calls Try.prog 6 #[.slice a n c] w fun e w' => ∃ g, e = .returned (.slice (some ⟨g, 0, none⟩) n n) ∧ StrsAt w' (some ⟨g, 0, none⟩) n ss ∧ Below w.heap.size w w' := by
  have HA := Lib.hid hR.2
  have HL := Lib.hid hR.1
  clear hR
  go_enter Try.func6, Try.ntmps6
  go_wp2_with ((with_reducible apply makeT (n := n)); (focus with_unfolding_all exact rfl); (focus with_unfolding_all exact rfl); (focus exact hn); (intro w1 hown hbel))
  go_loopw [4] (fun v4 wr => ∃ (k : Nat) (xs : List Value), k ≤ n ∧ v4 = .int .i64 k ∧ wr.ownsRow w.heap.size 9 1 (.slice (some ⟨w.heap.size, 0, none⟩) n n) n xs ∧ (∀ j, j < k → xs[j]? = some (.string (ss.getD j ByteArray.empty))) ∧ Below w.heap.size w wr)
    (fun v4 _ => n - (intOf v4).toNat)
  case atStart => exact ⟨0, _, by omega, rfl, hown, by omega, hbel⟩
  case round =>
    clear hown hbel
    obtain ⟨k, xs, hk, rfl, hown, hxs, hbel⟩ := hrel
    have HX := Lib.hid hxs; clear hxs
    rcases Nat.lt_or_ge k n with hkn | hkn
    · obtain ⟨b, off, rfl, hb, hc⟩ := HA.out (by omega)
      have hck : wr.cell? ⟨b, off + k, none⟩ = some (.string (ss.getD k ByteArray.empty)) := by rw [hbel.cell (p := ⟨b, off + k, none⟩) hb]; exact hc k hkn
      have hxl : k < xs.length := by rw [hown.1]; omega
      have hold : wr.cell? ⟨w.heap.size, k, none⟩ = some xs[k] := by rw [hown.cellAt k (by omega), List.getElem?_eq_getElem hxl]
      have hfro := hown.frozenAt k
      have hst := hown.stored k (.string (ss.getD k ByteArray.empty))
      have hxset : ∀ j, j < k + 1 → (xs.set k (.string (ss.getD k ByteArray.empty)))[j]? = some (.string (ss.getD j ByteArray.empty)) := fun j hj => by
        by_cases hjk : j = k
        · subst hjk; rw [List.getElem?_set_self hxl]
        · rw [List.getElem?_set_ne (Ne.symm hjk)]; exact HX.out j (by omega)
      have HS := Lib.hid hst.1
      have HXS := Lib.hid hxset
      have HB := Lib.hid (RowKit.Below.setCell (p := ⟨w.heap.size, k, none⟩) hbel (Nat.le_refl _) (.string (ss.getD k ByteArray.empty)))
      clear hst hxset hc hown hbel
      revert hck HS HXS HB
      generalize ss.getD k ByteArray.empty = x
      intro hck HS HXS HB
      go_wp2
      go_roundw
      case rel => exact ⟨k + 1, _, by omega, by go_num, HS.out, HXS.out, HB.out⟩
      case measure => simp [intOf]; omega
    · obtain rfl : k = n := by omega
      have hlt := (hown.lt w.heap.size rfl).2
      have HC := Lib.hid (fun j (hj : j < k) => (hown.cellAt j (by omega)).trans (HX.out j hj))
      clear hown
      go_wp2
      go_ret
      exact ⟨_, rfl, ⟨HL.out, fun _ => ⟨_, 0, rfl, hlt, fun j hj => by rw [Nat.zero_add]; exact HC.out j hj⟩⟩, hbel⟩

set_option maxRecDepth 100000 in
set_option maxHeartbeats 4000000 in
theorem eqStringS_same (ss : List ByteArray) (a a' : Option Addr) (n c c' : Nat) (w : World) (hR : StrsAt w a n ss) (hR' : StrsAt w a' n ss) (hn : n ≤ 9223372036854775807) :
    Calls Try.prog 8 #[.slice a n c, .slice a' n c'] w fun e w' => e = .returned (.bool true) ∧ ∃ m, w' = w.drewN m := by
  have HA := Lib.hid hR.2
  have HA' := Lib.hid hR'.2
  clear hR hR'
  go_enter Try.func8, Try.ntmps8
  go_wp2
  go_loopw [5] (fun v5 wr => ∃ k m : Nat, k ≤ n ∧ v5 = .int .i64 k ∧ wr = w.drewN m) (fun v5 _ => n - (intOf v5).toNat)
  case atStart => exact ⟨0, 0, by omega, rfl, rfl⟩
  case round =>
    obtain ⟨k, m, hk, rfl, rfl⟩ := hrel
    rcases Nat.lt_or_ge k n with hkn | hkn
    · obtain ⟨b, off, rfl, _, hc⟩ := HA.out (by omega)
      obtain ⟨b', off', rfl, _, hc'⟩ := HA'.out (by omega)
      have hck := hc k hkn
      have hck' := hc' k hkn
      clear hc hc'
      revert hck hck'
      generalize ss.getD k ByteArray.empty = x
      intro hck hck'
      go_wp2_with (go_quiet (fail))
      exact ⟨⟨k + 1, m + nq, by omega, by go_num, rfl⟩, by simp [intOf]; omega⟩
    · obtain rfl : k = n := by omega
      go_wp2
      go_ret
      exact ⟨rfl, m, rfl⟩

theorem drewN2 (w : World) (m n : Nat) : (w.drewN m).drewN n = w.drewN (m + n) := by simp [World.drewN, Nat.add_assoc]
def outJ (xs : List ByteArray) (c : UInt8) : ByteArray := if okJ xs c then preJ xs ⟨#[c]⟩ xs.length else ⟨#[]⟩
def RetJ (xs : List ByteArray) (c : UInt8) (w : World) (e : Ending) (w' : World) : Prop := e = .returned (.tuple #[.string (outJ xs c), .bool (okJ xs c)]) ∧ ∃ m, w' = w.drewN m
set_option maxRecDepth 100000 in
set_option maxHeartbeats 4000000 in
theorem specJoin_bad (sep : ByteArray) (a : Option Addr) (n c : Nat) (w : World) (hs : sep.size ≤ 1048576) (hb : sep.size ≠ 1 ∨ n = 0) :
    Calls Try.prog 5 #[.slice a n c, .string sep] w fun e w' => e = .returned (.tuple #[.string ⟨#[]⟩, .bool false]) ∧ w = w' := by
  by_cases h1 : sep.size = 1
  · obtain rfl : n = 0 := by omega
    have h1' : (sep.size : Int) = 1 := by omega
    go_enter Try.func5, Try.ntmps5
    go_wp2
    go_ret2
    exact ⟨rfl, rfl⟩
  · have hd : decide ((sep.size : Int) = 1) = false := decide_eq_false (by omega)
    have hd2 : ((sep.size : Int) == 1) = false := by simpa using hd
    have hd3 : ((sep.size : Int) != 1) = true := by rw [bne, hd2]; rfl
    go_enter Try.func5, Try.ntmps5
    go_wp2
    go_ret2
    exact ⟨rfl, rfl⟩
set_option maxRecDepth 100000 in
set_option maxHeartbeats 4000000 in
theorem specJoin_any (xs : List ByteArray) (b0 : UInt8) (a : Option Addr) (n c : Nat) (w : World) (hR : StrsAt w a n xs) (hz : Sizes xs) (hn0 : 0 < n) (hn : n ≤ 1048576) (hsum : sumJ xs n ≤ 1048576) :
    Calls Try.prog 5 #[.slice a n c, .string ⟨#[b0]⟩] w (RetJ xs b0 w) := by
  obtain ⟨b, off, rfl, _, hc⟩ := hR.2 hn0
  have HC := Lib.hid hc
  have HL := Lib.hid hR.1
  have HZ := Lib.hid (fun k => hz.at k)
  clear hR hz hc
  have hs1 : (⟨#[b0]⟩ : ByteArray).size = 1 := rfl
  have hb0 : ∀ h : 0 < (⟨#[b0]⟩ : ByteArray).size, (⟨#[b0]⟩ : ByteArray)[0] = b0 := fun _ => rfl
  go_enter Try.func5, Try.ntmps5
  go_wp2
  go_loopw [6, 7] (fun v6 v7 wr => ∃ k m : Nat, k ≤ n ∧ v7 = .int .i64 k ∧ v6 = .string (preJ xs ⟨#[b0]⟩ k) ∧ wr = w.drewN m ∧ (preJ xs ⟨#[b0]⟩ k).size ≤ 4000 ∧ ∀ j, j < k → stands (xs.getD j ByteArray.empty) b0 = false)
    (fun _ v7 _ => n - (intOf v7).toNat)
  case atStart => exact ⟨0, 0, by omega, rfl, rfl, rfl, by simp [preJ], by omega⟩
  case round =>
    obtain ⟨k, m, hk, rfl, rfl, hwr, hsz, hno⟩ := hrel
    have HW := Lib.hid hwr; clear hwr
    have HNO := Lib.hid hno; clear hno
    rcases Nat.lt_or_ge k n with hkn | hkn
    · have hck : wr.cell? ⟨b, off + k, none⟩ = some (.string (xs.getD k ByteArray.empty)) := by rw [HW.out]; exact HC.out k hkn
      have hxz := HZ.out k
      have HP : Hid (preJ xs ⟨#[b0]⟩ (k + 1) = (if 0 < k then preJ xs ⟨#[b0]⟩ k ++ ⟨#[b0]⟩ else preJ xs ⟨#[b0]⟩ k) ++ xs.getD k ByteArray.empty) := Lib.hid rfl
      have HST := fun w => l1Stands_any (xs.getD k ByteArray.empty) b0 w hxz
      have HSS := Lib.hid (fun (h : stands (xs.getD k ByteArray.empty) b0 = true) => okJ_stands (xs := xs) (by rw [HL.out]; exact hkn) h)
      have HLG := Lib.hid (fun (h : 4000 < (preJ xs ⟨#[b0]⟩ (k + 1)).size) => okJ_long (xs := xs) (by rw [HL.out]; omega) h)
      revert hck hxz HP HST HSS hsz
      have HNK : Hid (∀ x, x = xs.getD k ByteArray.empty → stands x b0 = false → ∀ j, j < k + 1 → stands (xs.getD j ByteArray.empty) b0 = false) := Lib.hid (fun x hx hf j hj => by
        by_cases h2 : j < k
        · exact HNO.out j h2
        · obtain rfl : j = k := by omega
          rw [← hx]; exact hf)
      generalize hx : xs.getD k ByteArray.empty = x
      generalize preJ xs ⟨#[b0]⟩ k = p
      intro hsz hck hxz HP HST HSS
      have HX := Lib.hid hx; clear hx
      cases hst : stands x b0 with
      | true =>
        rw [hst] at HST
        have HO := Lib.hid (HSS.out hst)
        have HSW := Lib.hid HST
        clear hst HST
        go_wp2_with (go_quiet ((go_at_call 9; exact Calls.quiet_of_same ((HSW.out _).mono fun _ _ ⟨he, hw⟩ => ⟨he, hw.symm⟩))))
        go_ret2
        unfold RetJ outJ; rw [HO.out]
        exact ⟨rfl, _, by rw [HW.out]; exact drewN2 _ _ _⟩
      | false =>
        rw [hst] at HST
        have HNK2 := Lib.hid (HNK.out x HX.out.symm hst)
        have HSW := Lib.hid HST
        clear hst HST
        have hxs : x.size ≤ 1048576 := by
          have h1 := sumJ_mono xs (show k + 1 ≤ n by omega)
          have h2 : sumJ xs (k + 1) = sumJ xs k + (xs.getD k ByteArray.empty).size := rfl
          rw [HX.out] at h2; omega
        by_cases h0 : 0 < k
        · have hps : (p ++ (⟨#[b0]⟩ : ByteArray)).size = p.size + 1 := by rw [app_size, hs1]
          have hpx : (p ++ (⟨#[b0]⟩ : ByteArray) ++ x).size = p.size + 1 + x.size := by rw [app_size, hps]
          have HPE : Hid (preJ xs ⟨#[b0]⟩ (k + 1) = p ++ ⟨#[b0]⟩ ++ x) := Lib.hid (by rw [HP.out, if_pos h0])
          by_cases hlong : 4000 < p.size + 1 + x.size
          · have HO := Lib.hid (HLG.out (by rw [HPE.out, hpx]; exact hlong))
            go_wp2_with (go_quiet ((go_at_call 9; exact Calls.quiet_of_same ((HSW.out _).mono fun _ _ ⟨he, hw⟩ => ⟨he, hw.symm⟩))))
            go_ret2
            unfold RetJ outJ; rw [HO.out]
            exact ⟨rfl, _, by rw [HW.out]; exact drewN2 _ _ _⟩
          · go_wp2_with (go_quiet ((go_at_call 9; exact Calls.quiet_of_same ((HSW.out _).mono fun _ _ ⟨he, hw⟩ => ⟨he, hw.symm⟩))))
            go_roundw
            case rel => exact ⟨k + 1, _, by omega, by go_num, by rw [HPE.out], by rw [HW.out]; exact drewN2 _ _ _, by rw [HPE.out, hpx]; omega, HNK2.out⟩
            case measure => simp [intOf]; omega
        · have hpx : (p ++ x).size = p.size + x.size := app_size _ _
          have HPE : Hid (preJ xs ⟨#[b0]⟩ (k + 1) = p ++ x) := Lib.hid (by rw [HP.out, if_neg h0])
          by_cases hlong : 4000 < p.size + x.size
          · have HO := Lib.hid (HLG.out (by rw [HPE.out, hpx]; exact hlong))
            go_wp2_with (go_quiet ((go_at_call 9; exact Calls.quiet_of_same ((HSW.out _).mono fun _ _ ⟨he, hw⟩ => ⟨he, hw.symm⟩))))
            go_ret2
            unfold RetJ outJ; rw [HO.out]
            exact ⟨rfl, _, by rw [HW.out]; exact drewN2 _ _ _⟩
          · go_wp2_with (go_quiet ((go_at_call 9; exact Calls.quiet_of_same ((HSW.out _).mono fun _ _ ⟨he, hw⟩ => ⟨he, hw.symm⟩))))
            go_roundw
            case rel => exact ⟨k + 1, _, by omega, by go_num, by rw [HPE.out], by rw [HW.out]; exact drewN2 _ _ _, by rw [HPE.out, hpx]; omega, HNK2.out⟩
            case measure => simp [intOf]; omega
    · obtain rfl : k = n := by omega
      have hok : okJ xs b0 = true := okJ_yes (fun j hj => HNO.out j (by rw [HL.out] at hj; exact hj)) (by rw [HL.out]; exact hsz)
      have HK := Lib.hid hok; clear hok
      go_wp2
      go_ret2
      unfold RetJ outJ; rw [HK.out, HL.out]
      exact ⟨rfl, m, HW.out⟩

theorem contains_stands (s : ByteArray) (c : UInt8) : decide (0 ≤ Lib.indexByte s.data.toList c) = stands s c := by
  have hge := Lib.indexByte_ge s.data.toList c
  unfold stands
  by_cases h : Lib.indexByte s.data.toList c = -1
  · have hn := Lib.indexByte_none h
    rw [h]
    cases hh : s.data.toList.contains c with
    | false => rfl
    | true =>
      obtain ⟨j, hj, he⟩ := List.mem_iff_getElem.1 (List.contains_iff_mem.1 hh)
      exact absurd (by rw [List.getElem?_eq_getElem hj, he]) (hn j)
  · obtain ⟨o, ho⟩ : ∃ o : Nat, Lib.indexByte s.data.toList c = o := ⟨(Lib.indexByte s.data.toList c).toNat, by omega⟩
    have hs := (Lib.indexByte_some ho).1
    rw [ho, decide_eq_true (by omega)]
    exact (List.contains_iff_mem.2 (List.mem_of_getElem? hs)).symm
def RetJ2 (xs : List ByteArray) (c : UInt8) (w : World) (e : Ending) (w' : World) : Prop := e = .returned (.tuple #[.string (outJ xs c), .bool (okJ xs c)]) ∧ Below w.heap.size w w'
set_option maxRecDepth 100000 in
set_option maxHeartbeats 4000000 in
theorem implJoin_bad (sep : ByteArray) (a : Option Addr) (n c : Nat) (w : World) (hs : sep.size ≤ 1048576) (hb : sep.size ≠ 1 ∨ n = 0) :
    Calls Try.prog 7 #[.slice a n c, .string sep] w fun e w' => e = .returned (.tuple #[.string ⟨#[]⟩, .bool false]) ∧ w = w' := by
  by_cases h0 : n = 0
  · subst h0
    go_enter Try.func7, Try.ntmps7
    go_wp2
    go_ret2
    exact ⟨rfl, rfl⟩
  · have hd : decide ((sep.size : Int) = 1) = false := decide_eq_false (by omega)
    have hd2 : ((sep.size : Int) == 1) = false := by simpa using hd
    have hd3 : ((sep.size : Int) != 1) = true := by rw [bne, hd2]; rfl
    have he : decide ((n : Int) = 0) = false := decide_eq_false (by omega)
    have he2 : ((n : Int) == 0) = false := by simpa using he
    go_enter Try.func7, Try.ntmps7
    go_wp2
    go_ret2
    exact ⟨rfl, rfl⟩
set_option maxRecDepth 100000 in
set_option maxHeartbeats 4000000 in
theorem implJoin_any (xs : List ByteArray) (b0 : UInt8) (a : Option Addr) (n c : Nat) (w : World) (hR : StrsAt w a n xs) (hz : Sizes xs) (hn0 : 0 < n) (hn : n ≤ 1048576) (hnc : n ≤ c) (hsum : sumJ xs n ≤ 1048576) :
    Calls Try.prog 7 #[.slice a n c, .string ⟨#[b0]⟩] w (RetJ2 xs b0 w) := by
  obtain ⟨b, off, rfl, hbs, hc⟩ := hR.2 hn0
  have HC := Lib.hid hc
  have HL := Lib.hid hR.1
  have HZ := Lib.hid (fun k => hz.at k)
  clear hR hz hc
  have hs1 : (⟨#[b0]⟩ : ByteArray).size = 1 := rfl
  have he : decide ((n : Int) = 0) = false := decide_eq_false (by omega)
  have he2 : ((n : Int) == 0) = false := by simpa using he
  go_enter Try.func7, Try.ntmps7
  go_wp2_with fail
  go_loopw [6, 22] (fun v6 v22 wr => ∃ k : Nat, k ≤ n ∧ v22 = .int .i64 k ∧ v6 = .int .i64 ((n : Int) - 1 + (sumJ xs k : Nat)) ∧ w = wr ∧ (k = 0 ∨ n - 1 + sumJ xs k ≤ 4000) ∧ ∀ j, j < k → stands (xs.getD j ByteArray.empty) b0 = false)
    (fun _ v22 _ => n - (intOf v22).toNat)
  case atStart => exact ⟨0, by omega, rfl, by simp [sumJ], rfl, .inl rfl, by omega⟩
  case round =>
    obtain ⟨k, hk, rfl, rfl, rfl, hsz, hno⟩ := hrel
    have HNO := Lib.hid hno; clear hno
    rcases Nat.lt_or_ge k n with hkn | hkn
    · have hck := HC.out k hkn
      have hxz := HZ.out k
      have HP : Hid (sumJ xs (k + 1) = sumJ xs k + (xs.getD k ByteArray.empty).size) := Lib.hid rfl
      have hsk := sumJ_mono xs (show k ≤ n by omega)
      have hsk1 := sumJ_mono xs (show k + 1 ≤ n by omega)
      rw [HP.out] at hsk1
      have HSW0 := fun w => Try.strings_Contains_one (xs.getD k ByteArray.empty) b0 w
      simp only [contains_stands] at HSW0
      have HSS := Lib.hid (fun (h : stands (xs.getD k ByteArray.empty) b0 = true) => okJ_stands (xs := xs) (by rw [HL.out]; exact hkn) h)
      have HNK : Hid (∀ x, x = xs.getD k ByteArray.empty → stands x b0 = false → ∀ j, j < k + 1 → stands (xs.getD j ByteArray.empty) b0 = false) := Lib.hid (fun x hx hf j hj => by
        by_cases h2 : j < k
        · exact HNO.out j h2
        · obtain rfl : j = k := by omega
          rw [← hx]; exact hf)
      have HSZ := Lib.hid hsz; clear hsz
      revert hck hxz HP HSW0 HSS hsk1
      generalize hx : xs.getD k ByteArray.empty = x
      intro hck hxz HP hsk1 HSW0 HSS
      have HX := Lib.hid hx; clear hx
      by_cases hlong : 4000 < n - 1 + (sumJ xs k + x.size)
      · have HO : Hid (okJ xs b0 = false) := Lib.hid (okJ_long (k := xs.length) (Nat.le_refl _) (by rw [preJ_size, HL.out]; omega))
        clear HSW0
        go_wp2
        go_ret2
        unfold RetJ2 outJ; rw [HO.out]
        exact ⟨rfl, Below.refl _ _⟩
      · cases hst : stands x b0 with
        | true =>
          rw [hst] at HSW0
          have HO := Lib.hid (HSS.out hst)
          have HSW := Lib.hid HSW0
          clear hst HSW0
          go_wp2_with (go_at_call 10; refine (HSW.out _).mono ?_; rintro e w' ⟨rfl, rfl⟩)
          go_ret2
          unfold RetJ2 outJ; rw [HO.out]
          exact ⟨rfl, Below.refl _ _⟩
        | false =>
          rw [hst] at HSW0
          have HNK2 := Lib.hid (HNK.out x HX.out.symm hst)
          have HSW := Lib.hid HSW0
          clear hst HSW0
          go_wp2_with (go_at_call 10; refine (HSW.out _).mono ?_; rintro e w' ⟨rfl, rfl⟩)
          go_roundw
          case rel => exact ⟨k + 1, by omega, by go_num, by rw [HP.out]; go_num, by trivial, .inr (by rw [HP.out]; omega), HNK2.out⟩
          case measure => simp [intOf]; omega
    · obtain rfl : k = n := by omega
      have hps : (preJ xs ⟨#[b0]⟩ xs.length).size ≤ 4000 := by rw [preJ_size, HL.out]; omega
      have hok : okJ xs b0 = true := okJ_yes (fun j hj => HNO.out j (by rw [HL.out] at hj; exact hj)) hps
      have HK := Lib.hid hok; clear hok
      have hpj := preJ_join xs b0
      have hj := Try.strings_Join b off c xs ⟨#[b0]⟩ w (fun j x hx => by
        have hjl : j < xs.length := (List.getElem?_eq_some_iff.1 hx).1
        rw [HC.out j (by rw [HL.out] at hjl; exact hjl), List.getD_eq_getElem?_getD, hx]; rfl) hbs (by rw [HL.out]; omega) (by rw [HL.out]; exact hnc) (by
          show (Lib.join (xs.map (·.data.toList)) [b0]).length ≤ _
          rw [← hpj]
          have : (preJ xs ⟨#[b0]⟩ xs.length).data.toList.length = (preJ xs ⟨#[b0]⟩ xs.length).size := Array.length_toList
          rw [this]; omega)
      have e1 : (⟨(Lib.join (xs.map (·.data.toList)) (⟨#[b0]⟩ : ByteArray).data.toList).toArray⟩ : ByteArray) = preJ xs ⟨#[b0]⟩ xs.length := by
        show (⟨(Lib.join (xs.map (·.data.toList)) [b0]).toArray⟩ : ByteArray) = _
        rw [← hpj]
      rw [e1] at hj
      have HE : Hid (outJ xs b0 = preJ xs ⟨#[b0]⟩ xs.length) := Lib.hid (by unfold outJ; rw [HK.out]; rfl)
      rw [← HE.out, HL.out] at hj
      have HJ := Lib.hid hj
      clear hj e1 hpj hps hsz
      go_wp2_with (go_at_call 11; refine (HJ.out).mono ?_; rintro e w1 ⟨rfl, hb1⟩)
      go_ret2
      exact ⟨by rw [HK.out]; rfl, hb1⟩
end Go.Proofs.Ytojanfcmhalfkaa
