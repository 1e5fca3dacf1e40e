/- The walk of the law FnExactJoinStrings: it returns true. -/
import Derived.Test.YtojanfcmhalfkaaRows
import Derived.Test.YtojanfcmhalfkaaShelf
import Derived.Test.YtojanfcmhalfkaaPs
import Derived.Test.YtojanfcmhalfkaaJn
import Derived.WalkKit
import Derived.WalkSpells
import Derived.WalkLawsBesides
import Derived.Handy
import Derived.Deep.QuietTactic
import Derived.BigQuiet
import Derived.Deep.Cut
import Derived.Lib.Hide
import Derived.Lib.IndexLaws
import Derived.Lib.SplitLaws
import Derived.OwnWalk
import Derived.Laws.OwnMore
import Derived.Sort.Grow
set_option linter.all false
namespace Go.Proofs.Ytojanfcmhalfkaa
open Go.RowKit Ps

set_option maxRecDepth 100000 in
set_option maxHeartbeats 4000000 in
theorem fnExactJoinStrings_walk (ss : List ByteArray) (a : Option Addr) (n c : Nat) (sep : ByteArray) (w : World) (hR0 : StrsAt w a n ss) (hz : Sizes ss) (hn63 : n ≤ 9223372036854775807) (hsep : sep.size ≤ 9223372036854775807) :
    Calls Try.prog 3 #[.slice a n c, .string sep] w fun e w' => e = .returned (.bool true) ∧ Below w.heap.size w w' := by
  have HR := Lib.hid hR0
  have HSZ := Lib.hid (sz_any ss a n c w hR0 hz hn63)
  have HZ := Lib.hid hz
  clear hR0 hz
  by_cases hbig : 1048576 < sep.size
  · go_enter Try.func3, Try.ntmps3
    go_wp2
    go_ret
    exact ⟨rfl, Below.refl _ _⟩
  · go_enter Try.func3, Try.ntmps3
    go_upto_region 5 with (go_at_call 4; refine (HSZ.out).mono ?_; rintro e w1 ⟨rfl, r, rfl, hr⟩)
    by_cases hneg : r < 0
    · go_wp2
      go_ret
      exact ⟨rfl, Below.refl _ _⟩
    · obtain ⟨hn, hsum⟩ := hr (by omega)
      clear hr
      by_cases hgood : sep.size = 1 ∧ 0 < n
      · obtain ⟨h1, hn0⟩ := hgood
        obtain ⟨b0, rfl⟩ := Lib.one_byte sep h1
        clear h1 hbig hsep
        go_upto_region 8 with (first | (go_at_call 6; refine (toStringS_any ss a n c _ (HR.out.below (by (repeat' (first | (with_reducible exact RowKit.Below.refl _ _) | (with_reducible assumption) | (with_reducible refine belN ?_ _) | (with_reducible refine RowKit.Below.drew ?_) | (with_reducible refine RowKit.Below.alloc ?_ ?_ _) | go_size | omega)))) hn).mono ?_; rintro e w1 ⟨g1, rfl, hs1, hb1⟩; (have hbel1 : Below w.heap.size w w1 := by assumption); clear hb1) | (go_at_call 5; refine (specJoin_any ss b0 _ n n _ hs1 HZ.out hn0 hn hsum).mono ?_; rintro e wA ⟨rfl, mA, rfl⟩; (have hs1' := hs1; clear hs1)))
        go_upto_region 9 with (go_at_call 6; refine (toStringS_any ss a n c _ (HR.out.below (by (repeat' (first | (with_reducible exact RowKit.Below.refl _ _) | (with_reducible assumption) | (with_reducible refine belN ?_ _) | (with_reducible refine RowKit.Below.drew ?_) | (with_reducible refine RowKit.Below.alloc ?_ ?_ _) | go_size | omega)))) hn).mono ?_; rintro e w2 ⟨g2, rfl, hs2, hb2⟩; (have hbel2 : Below w.heap.size w w2 := bel0 (by (repeat' (first | (with_reducible exact RowKit.Below.refl _ _) | (with_reducible assumption) | (with_reducible refine belN ?_ _) | (with_reducible refine RowKit.Below.drew ?_) | (with_reducible refine RowKit.Below.alloc ?_ ?_ _) | go_size | omega))) (by have := hbel1.size; exact this) hb2); clear hb2)
        go_upto_region 10 with (go_at_call 7; refine (implJoin_any ss b0 _ n n _ hs2 HZ.out hn0 hn (Nat.le_refl _) hsum).mono ?_; rintro e wB ⟨rfl, hbB⟩; (have hbelB : Below w.heap.size w wB := bel0 hbel2 hbel2.size hbB))
        go_upto_region 12 with fail
        go_wp2_with (first | (go_at_call 6; refine (toStringS_any ss a n c _ (HR.out.below (by (repeat' (first | (with_reducible exact RowKit.Below.refl _ _) | (with_reducible assumption) | (with_reducible refine belN ?_ _) | (with_reducible refine RowKit.Below.drew ?_) | (with_reducible refine RowKit.Below.alloc ?_ ?_ _) | go_size | omega)))) hn).mono ?_; rintro e w3 ⟨g3, rfl, hs3, hb3⟩; (have hbel3 : Below w.heap.size w w3 := bel0 hbelB hbelB.size hb3)) | (go_at_call 8; refine (eqStringS_same ss _ _ n n n _ (hs2.below (hbB.trans (hb3.mono hbB.size))) hs3 (by omega)).mono ?_; rintro e wC ⟨rfl, mC, rfl⟩))
        go_ret
        exact ⟨rfl, by (repeat' (first | (with_reducible exact RowKit.Below.refl _ _) | (with_reducible assumption) | (with_reducible refine belN ?_ _) | (with_reducible refine RowKit.Below.drew ?_) | (with_reducible refine RowKit.Below.alloc ?_ ?_ _) | go_size | omega))⟩
      · have hbad : sep.size ≠ 1 ∨ n = 0 := by omega
        have hsep2 : sep.size ≤ 1048576 := by omega
        have HB := Lib.hid hbad
        clear hgood hbad hsep
        go_upto_region 8 with (first | (go_at_call 6; refine (toStringS_any ss a n c _ (HR.out.below (by (repeat' (first | (with_reducible exact RowKit.Below.refl _ _) | (with_reducible assumption) | (with_reducible refine belN ?_ _) | (with_reducible refine RowKit.Below.drew ?_) | (with_reducible refine RowKit.Below.alloc ?_ ?_ _) | go_size | omega)))) hn).mono ?_; rintro e w1 ⟨g1, rfl, hs1, hb1⟩; (have hbel1 : Below w.heap.size w w1 := by assumption); clear hb1) | (go_at_call 5; refine (specJoin_bad sep _ n n _ hsep2 HB.out).mono ?_; rintro e wA ⟨rfl, rfl⟩))
        go_upto_region 9 with (go_at_call 6; refine (toStringS_any ss a n c _ (HR.out.below (by (repeat' (first | (with_reducible exact RowKit.Below.refl _ _) | (with_reducible assumption) | (with_reducible refine belN ?_ _) | (with_reducible refine RowKit.Below.drew ?_) | (with_reducible refine RowKit.Below.alloc ?_ ?_ _) | go_size | omega)))) hn).mono ?_; rintro e w2 ⟨g2, rfl, hs2, hb2⟩; (have hbel2 : Below w.heap.size w w2 := bel0 (by (repeat' (first | (with_reducible exact RowKit.Below.refl _ _) | (with_reducible assumption) | (with_reducible refine belN ?_ _) | (with_reducible refine RowKit.Below.drew ?_) | (with_reducible refine RowKit.Below.alloc ?_ ?_ _) | go_size | omega))) (by have := hbel1.size; exact this) hb2); clear hb2)
        go_upto_region 10 with (go_at_call 7; refine (implJoin_bad sep _ n n _ hsep2 HB.out).mono ?_; rintro e wB ⟨rfl, rfl⟩)
        go_upto_region 12 with fail
        go_wp2_with (first | (go_at_call 6; refine (toStringS_any ss a n c _ (HR.out.below (by (repeat' (first | (with_reducible exact RowKit.Below.refl _ _) | (with_reducible assumption) | (with_reducible refine belN ?_ _) | (with_reducible refine RowKit.Below.drew ?_) | (with_reducible refine RowKit.Below.alloc ?_ ?_ _) | go_size | omega)))) hn).mono ?_; rintro e w3 ⟨g3, rfl, hs3, hb3⟩; (have hbel3 : Below w.heap.size w w3 := bel0 hbel2 hbel2.size hb3)) | (go_at_call 8; refine (eqStringS_same ss _ _ n n n _ (hs2.below hb3) hs3 (by omega)).mono ?_; rintro e wC ⟨rfl, mC, rfl⟩))
        go_ret
        exact ⟨rfl, by (repeat' (first | (with_reducible exact RowKit.Below.refl _ _) | (with_reducible assumption) | (with_reducible refine belN ?_ _) | (with_reducible refine RowKit.Below.drew ?_) | (with_reducible refine RowKit.Below.alloc ?_ ?_ _) | go_size | omega))⟩
end Go.Proofs.Ytojanfcmhalfkaa
