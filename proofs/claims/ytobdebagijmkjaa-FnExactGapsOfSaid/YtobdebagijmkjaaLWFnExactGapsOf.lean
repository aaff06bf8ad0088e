/- The law FnExactGapsOf: what the law's call returns. -/
import Derived.Test.YtobdebagijmkjaaGapD
import Derived.Test.YtobdebagijmkjaaMarkStretch
import Derived.Test.YtobdebagijmkjaaConvStretch
import Derived.Test.YtobdebagijmkjaaLawE0
namespace Go.Proofs.Ytobdebagijmkjaa
open Go.RowKit
set_option linter.unusedVariables false

theorem gapsL_length (l : List StrT) (s : ByteArray) : (gapsL l s).length ≤ 30 := by
  unfold gapsL
  split
  · rename_i h
    rw [gapsOk, Bool.and_eq_true] at h
    exact Nat.le_trans (gapsK_len l s _) (strsB_le h.1)
  · simp

set_option maxHeartbeats 4000000 in
theorem FnExactGapsOf_walk (A : Option Addr) (n c : Nat) (hs : List (ByteArray × Int × Int × Int × Int)) (s : ByteArray) (w : World) (hn : n = hs.length) (hnc : n ≤ c) (hc : c ≤ maxLen) (hr : Rd w A (hs.flatMap scells)) (hq : ∀ x ∈ hs, x.1.size ≤ maxLen) (hz : s.size ≤ maxLen) :
    Calls Try.prog 5 #[.slice A n c, .string s] w fun e w' => e = .returned (.bool true) ∧ Below w.heap.size w w' := by
  have Hn := hide hn
  have HR := hide hr
  have HQ := hide hq
  have HRL := hide (gapsL_length hs s)
  clear hn hr hq
  go_enter Try.func5, Try.ntmps5
  go_wp2_with fail
  · go_ret
    exact ⟨rfl, (by repeat (first | exact Below.refl _ _ | refine below_step ?_ (by assumption) | refine below_step ?_ (Later.below _) | refine below_alloc ?_ _ | refine Below.drew ?_ | refine Below.setCell ?_ (by first | (simp; done) | (simp; omega)) _))⟩
  go_wp2_with fail
  refine (szStretchS_any A n c _ hs _ Hn.out (by omega) HQ.out HR.out (by omega) (by omega)).mono ?_
  rintro e w0 ⟨⟨u, rfl, hu0, hu1, hu2⟩, hb0⟩
  have HU := hide hu2
  clear hu2
  by_cases hneg : u < 0
  · go_wp2
    go_ret
    exact ⟨rfl, hb0⟩
  · have hm : n ≤ 1048576 := HU.out (by omega)
    go_wp2_with fail
    refine (toStretchS_any A n c hs _ Hn.out hm (HR.out.below hb0)).mono ?_
    rintro e w1 ⟨rfl, hr1, hb1⟩
    have HR1 := hide hr1.rd
    have HW1 := hide (below_step hb0 hb1)
    clear hr1
    go_wp2_with fail
    refine (specGapsOf_any _ n n hs s _ Hn.out hm HQ.out HR1.out (by assumption)).mono ?_
    rintro e w2 ⟨⟨v1, rfl, hn1⟩, hb2⟩
    have HW2 := hide (below_step HW1.out hb2)
    have HU1 : Hid (NestU w2 w1.heap.size w2.heap.size v1 (gapsL hs s)) := hide hn1.lt
    clear hn1 hb2
    go_wp2_with fail
    refine (toStretchS_any A n c hs _ Hn.out hm (HR.out.below HW2.out)).mono ?_
    rintro e w3 ⟨rfl, hr3, hb3⟩
    have HC3 := hide hr3
    have HZ3 := hide hb3
    have hg3 : w2.heap.size < w3.heap.size := HC3.out.1
    have HG3 := hide hg3
    clear hr3 hb3 hg3
    go_wp2_with fail
    refine (implGapsOf_any _ n n hs s _ Hn.out hm HQ.out HC3.out.rd (by assumption)).mono ?_
    rintro e w4 ⟨⟨v2, rfl, hn2⟩, hb4⟩
    have HZ4 := hide (below_step HZ3.out hb4)
    have HC4 := hide (HC3.out.below hb4)
    have HN4 := hide hn2
    have HS4 := hide hb4.size
    clear hn2 hb4
    go_wp2_with fail
    refine (eqIntSS_same w3.heap.size w1.heap.size v2 v1 (gapsL hs s) _ HN4.out (HU1.out.low HZ4.out).nest (by have := HRL.out; omega)).mono ?_
    rintro e w5 ⟨rfl, hb5⟩
    have HZ5 := hide (below_step HZ4.out hb5)
    have HN5 := hide (HN4.out.below hb5)
    have HC5 := hide (HC4.out.below hb5)
    have HS5 := hide (Nat.le_trans HS4.out hb5.size)
    clear hb5
    go_wp2_with fail
    refine (toStretchS_any A n c hs _ Hn.out hm (HR.out.below (below_step HW2.out HZ5.out))).mono ?_
    rintro e w6 ⟨rfl, hr6, hb6⟩
    have HZ6 := hide (below_step HZ5.out hb6)
    have HN6 := hide (HN5.out.below hb6)
    have HC6 := hide (HC5.out.below hb6)
    have HD6 := hide hr6.rd
    have HS6 := hide (Nat.le_trans HS5.out hb6.size)
    clear hr6 hb6
    go_wp2_with fail
    refine (eqStretchS_same _ _ n n n hs _ Hn.out hm HC6.out.rd HD6.out).mono ?_
    rintro e w7 ⟨rfl, hb7⟩
    have HZ7 := hide (below_step HZ6.out hb7)
    have HN7 := hide (HN6.out.below hb7)
    have HC7 := hide (HC6.out.below hb7)
    have HS7 := hide (Nat.le_trans HS6.out hb7.size)
    clear hb7
    go_wp2_with fail
    refine (markStretchS_any w2.heap.size n n _ 1 _ HC7.out (by rw [flat_length scells 5 (fun _ => rfl)]; have := Hn.out; omega) hm (by omega) (by omega)).mono ?_
    rintro e w8 ⟨rfl, -, hg8⟩
    have HZ8 := hide (HZ7.out.grown hg8 HZ7.out.size (fun k hk => by injection hk with hk; omega))
    have HN8 := hide (HN7.out.far hg8 HG3.out)
    have HS8 := hide (Nat.le_trans HS7.out hg8.size)
    clear hg8
    go_wp2_with fail
    refine (eqIntSS_same w3.heap.size w1.heap.size v2 v1 (gapsL hs s) _ HN8.out (HU1.out.low HZ8.out).nest (by have := HRL.out; omega)).mono ?_
    rintro e w9 ⟨rfl, hb9⟩
    have HZ9 := hide (below_step HZ8.out hb9)
    have HN9 := hide (HN8.out.below hb9)
    have HS9 := hide (Nat.le_trans HS8.out hb9.size)
    clear hb9
    go_wp2_with fail
    refine (markIntSS_any w3.heap.size v2 (gapsL hs s) 1 _ HN9.out (by have := HRL.out; omega) (by omega) (by omega) HS9.out).mono ?_
    rintro e w10 ⟨rfl, hn10, hb10⟩
    have HN10 := hide hn10
    have HZ10 := hide (HZ9.out.trans (hb10.mono (Nat.le_of_lt HG3.out)))
    clear hn10 hb10
    go_wp2_with fail
    refine (heldIntSS_any w3.heap.size v2 (gapsL hs s).length 1 _ HN10.out (by have := HRL.out; omega) (by omega) (by omega)).mono ?_
    rintro e w' ⟨rfl, rfl⟩
    go_wp2_with fail
    refine (toStretchS_any A n c hs _ Hn.out hm (HR.out.below (below_step HW2.out HZ10.out))).mono ?_
    rintro e w11 ⟨rfl, hr11, hb11⟩
    have HD11 := hide hr11.rd
    have HZ11 := hide (below_step HZ10.out hb11)
    have HN11 := hide (HN10.out.below hb11)
    clear hr11 hb11
    go_wp2_with fail
    refine (implGapsOf_any _ n n hs s _ Hn.out hm HQ.out HD11.out (by assumption)).mono ?_
    rintro e w12 ⟨⟨v3, rfl, hn3⟩, hb12⟩
    have HZ12 := hide (below_step HZ11.out hb12)
    have HN12 := hide (HN11.out.below hb12)
    have HM12 := hide hn3
    clear hn3 hb12
    go_wp2_with fail
    refine (eqIntSS_same _ w1.heap.size v3 v1 (gapsL hs s) _ HM12.out (HU1.out.low HZ12.out).nest (by have := HRL.out; omega)).mono ?_
    rintro e w13 ⟨rfl, hb13⟩
    have HZ13 := hide (below_step HZ12.out hb13)
    have HN13 := hide (HN12.out.below hb13)
    clear hb13
    go_wp2_with fail
    refine (heldIntSS_any w3.heap.size v2 (gapsL hs s).length 1 _ HN13.out (by have := HRL.out; omega) (by omega) (by omega)).mono ?_
    rintro e w' ⟨rfl, rfl⟩
    go_wp2
    go_ret
    exact ⟨rfl, below_step HW2.out HZ13.out⟩
end Go.Proofs.Ytobdebagijmkjaa
