/- The reference reads a number. -/
import Derived.Test.YtpkhdmhfkmajcaaDoorParN
namespace Go.Proofs.YtpkhdmhfkmajcaaDoor
open Go.RowKit
set_option linter.unusedVariables false

theorem drop_at {s : ByteArray} {k : Nat} (h : k < s.size) : s.data.toList.drop k = s[k] :: s.data.toList.drop (k + 1) := List.drop_eq_getElem_cons (by simpa using h)
theorem readS_no {s : ByteArray} (h : s.size < 1 ∨ 6 < s.size ∨ (s.data[0]? = some 48 ∧ 1 < s.size)) : readS s = -1 := by rw [readS, if_pos h]
theorem readS_yes {s : ByteArray} (h : ¬ (s.size < 1 ∨ 6 < s.size ∨ (s.data[0]? = some 48 ∧ 1 < s.size))) : readS s = digs 0 s.data.toList := by rw [readS, if_neg h]
theorem ret_i64 {a b : Int} (h : a = b) : Ending.returned (.int .i64 a) = .returned (.int .i64 b) := by rw [h]
theorem digs_stop {s : ByteArray} {k n : Nat} (h : k < s.size) (hd : ¬ isDig s[k]) (h2 : digs n (s.data.toList.drop k) = digs 0 s.data.toList) : digs 0 s.data.toList = -1 := by
  rw [← h2, drop_at h, digs, if_pos ((dig_iff _).2 hd)]
theorem digs_go {s : ByteArray} {k n : Nat} (h : k < s.size) (hd : isDig s[k]) (h2 : digs n (s.data.toList.drop k) = digs 0 s.data.toList) : digs ((10 * n + (s[k].toNat - 48) : Nat) : Int) (s.data.toList.drop (k + 1)) = digs 0 s.data.toList := by
  rw [← h2, drop_at h, digs, if_neg (by rw [dig_iff]; exact fun k => k hd)]
  congr 1
  have := hd.1
  omega

set_option maxHeartbeats 2000000 in
theorem read_any (s : ByteArray) (w : World) (hs : s.size ≤ maxLen) :
    Calls Tryd.prog 38 #[.string s] w fun e w' => e = .returned (.int .i64 (readS s)) ∧ Below w.heap.size w w' := by
  unfold maxLen at hs
  by_cases h1 : 1 ≤ s.size ∧ s.size ≤ 6
  · have hin : inB (s.size : Int) 1 6 = true := by rw [inB_iff]; omega
    have hs1 : s.size ≤ 6 := h1.2
    have hs0 : 0 < s.size := h1.1
    by_cases h2 : s[0] = 48 ∧ 1 < s.size
    · have HN := hide (readS_no (s := s) (.inr (.inr ⟨by rw [← h2.1]; exact Array.getElem?_eq_getElem hs0, h2.2⟩)))
      have e0 : (s[0].toNat : Int) = 48 := by rw [h2.1]; rfl
      have e1 : ((1 : Int) < (s.size : Int)) = True := by simp; omega
      go_enter Tryd.func38, Tryd.ntmps38
      go_wp2_with (go_at_call 44; ((with_reducible refine (l1In_any _ _ _ _).mono ?_); rintro e w' ⟨rfl, rfl⟩))
      go_ret
      exact ⟨ret_i64 HN.out.symm, (by repeat (first | exact Below.refl _ _ | refine below_step ?_ (by assumption) | refine below_step ?_ (Later.below _) | refine below_alloc ?_ _ | refine Below.drew ?_ | refine Below.setCell ?_ (by first | (simp; done) | (simp; omega)) _))⟩
    · have HY := hide (readS_yes (s := s) (by
        rintro (h | h | ⟨h, h'⟩)
        · omega
        · omega
        · exact h2 ⟨by
            have := Array.getElem?_eq_getElem (xs := s.data) hs0
            rw [this] at h
            exact Option.some.inj h, h'⟩))
      have HQ : Hid (∀ Q : Prop, (s[0] ≠ 48 → Q) → (s.size = 1 → Q) → Q) := hide (fun Q ha hb => by
        by_cases h0 : s[0] = 48
        · exact hb (by have hn : ¬ 1 < s.size := fun h => h2 ⟨h0, h⟩; omega)
        · exact ha h0)
      clear h2
      by_cases hz : (s[0].toNat : Int) = 48
      · have e1 : ((1 : Int) < (s.size : Int)) = False := by
          simp only [eq_iff_iff, iff_false]
          refine HQ.out (¬ (1 : Int) < (s.size : Int)) (fun h => absurd ?_ h) (fun (h : s.size = 1) => ?_)
          · apply UInt8.toNat_inj.1
            rw [show (48 : UInt8).toNat = 48 from rfl]; omega
          · clear HQ; omega
        clear HQ
        go_enter Tryd.func38, Tryd.ntmps38
        go_wp2_with (go_at_call 44; ((with_reducible refine (l1In_any _ _ _ _).mono ?_); rintro e w' ⟨rfl, rfl⟩))
        go_loop [4, 3] (fun i v => ∃ k n : Nat, k ≤ s.size ∧ i = .int .i64 k ∧ v = .int .i64 n ∧ n < 1000000 ∧ Hid (n < 10 ^ k) ∧ Hid (digs n (s.data.toList.drop k) = digs 0 s.data.toList)) (fun i _ => s.size - (intOf i).toNat)
        case atStart => exact ⟨0, 0, Nat.zero_le _, rfl, rfl, by omega, hide (by simp), hide rfl⟩
        case round =>
          obtain ⟨k, n, hk, rfl, rfl, hn6, HP, HD⟩ := hrel
          by_cases hlt : k < s.size
          · by_cases h1 : (s[k].toNat : Int) < 48
            · have HE := hide (digs_stop hlt (by unfold isDig; omega) HD.out)
              go_wp2
              go_ret
              exact ⟨ret_i64 (by rw [HY.out, HE.out]), (by repeat (first | exact Below.refl _ _ | refine below_step ?_ (by assumption) | refine below_step ?_ (Later.below _) | refine below_alloc ?_ _ | refine Below.drew ?_ | refine Below.setCell ?_ (by first | (simp; done) | (simp; omega)) _))⟩
            · by_cases h2 : (57 : Int) < (s[k].toNat : Int)
              · have HE := hide (digs_stop hlt (by unfold isDig; omega) HD.out)
                go_wp2
                go_ret
                exact ⟨ret_i64 (by rw [HY.out, HE.out]), (by repeat (first | exact Below.refl _ _ | refine below_step ?_ (by assumption) | refine below_step ?_ (Later.below _) | refine below_alloc ?_ _ | refine Below.drew ?_ | refine Below.setCell ?_ (by first | (simp; done) | (simp; omega)) _))⟩
              · have hd : isDig s[k] := by unfold isDig; omega
                have HE := hide (digs_go hlt hd HD.out)
                have hp5 : n < 100000 := Nat.lt_of_lt_of_le HP.out (Nat.pow_le_pow_right (n := 10) (by omega) (show k ≤ 5 by omega))
                have HP2 : Hid (10 * n + (s[k].toNat - 48) < 10 ^ (k + 1)) := hide (by have := HP.out; have := hd.2; rw [Nat.pow_succ]; omega)
                have eu : IntKind.u8.wrap ((s[k].toNat : Int) - 48) = (s[k].toNat : Int) - 48 := by rw [IntKind.wrap_u8]; omega
                clear hd
                go_wp2
                go_round
                case rel => exact ⟨k + 1, 10 * n + (s[k].toNat - 48), by omega, by go_num, by go_num, by omega, HP2, HE⟩
                case measure => simp [intOf]; omega
          · have HZ : Hid ((n : Int) = digs 0 s.data.toList) := hide (by
              have := HD.out
              rw [List.drop_eq_nil_of_le (by rw [Array.length_toList]; show s.size ≤ k; omega)] at this
              exact this)
            go_wp2
            go_ret
            exact ⟨ret_i64 (by rw [HY.out, HZ.out]), (by repeat (first | exact Below.refl _ _ | refine below_step ?_ (by assumption) | refine below_step ?_ (Later.below _) | refine below_alloc ?_ _ | refine Below.drew ?_ | refine Below.setCell ?_ (by first | (simp; done) | (simp; omega)) _))⟩
      · clear HQ
        go_enter Tryd.func38, Tryd.ntmps38
        go_wp2_with (go_at_call 44; ((with_reducible refine (l1In_any _ _ _ _).mono ?_); rintro e w' ⟨rfl, rfl⟩))
        go_loop [4, 3] (fun i v => ∃ k n : Nat, k ≤ s.size ∧ i = .int .i64 k ∧ v = .int .i64 n ∧ n < 1000000 ∧ Hid (n < 10 ^ k) ∧ Hid (digs n (s.data.toList.drop k) = digs 0 s.data.toList)) (fun i _ => s.size - (intOf i).toNat)
        case atStart => exact ⟨0, 0, Nat.zero_le _, rfl, rfl, by omega, hide (by simp), hide rfl⟩
        case round =>
          obtain ⟨k, n, hk, rfl, rfl, hn6, HP, HD⟩ := hrel
          by_cases hlt : k < s.size
          · by_cases h1 : (s[k].toNat : Int) < 48
            · have HE := hide (digs_stop hlt (by unfold isDig; omega) HD.out)
              go_wp2
              go_ret
              exact ⟨ret_i64 (by rw [HY.out, HE.out]), (by repeat (first | exact Below.refl _ _ | refine below_step ?_ (by assumption) | refine below_step ?_ (Later.below _) | refine below_alloc ?_ _ | refine Below.drew ?_ | refine Below.setCell ?_ (by first | (simp; done) | (simp; omega)) _))⟩
            · by_cases h2 : (57 : Int) < (s[k].toNat : Int)
              · have HE := hide (digs_stop hlt (by unfold isDig; omega) HD.out)
                go_wp2
                go_ret
                exact ⟨ret_i64 (by rw [HY.out, HE.out]), (by repeat (first | exact Below.refl _ _ | refine below_step ?_ (by assumption) | refine below_step ?_ (Later.below _) | refine below_alloc ?_ _ | refine Below.drew ?_ | refine Below.setCell ?_ (by first | (simp; done) | (simp; omega)) _))⟩
              · have hd : isDig s[k] := by unfold isDig; omega
                have HE := hide (digs_go hlt hd HD.out)
                have hp5 : n < 100000 := Nat.lt_of_lt_of_le HP.out (Nat.pow_le_pow_right (n := 10) (by omega) (show k ≤ 5 by omega))
                have HP2 : Hid (10 * n + (s[k].toNat - 48) < 10 ^ (k + 1)) := hide (by have := HP.out; have := hd.2; rw [Nat.pow_succ]; omega)
                have eu : IntKind.u8.wrap ((s[k].toNat : Int) - 48) = (s[k].toNat : Int) - 48 := by rw [IntKind.wrap_u8]; omega
                clear hd
                go_wp2
                go_round
                case rel => exact ⟨k + 1, 10 * n + (s[k].toNat - 48), by omega, by go_num, by go_num, by omega, HP2, HE⟩
                case measure => simp [intOf]; omega
          · have HZ : Hid ((n : Int) = digs 0 s.data.toList) := hide (by
              have := HD.out
              rw [List.drop_eq_nil_of_le (by rw [Array.length_toList]; show s.size ≤ k; omega)] at this
              exact this)
            go_wp2
            go_ret
            exact ⟨ret_i64 (by rw [HY.out, HZ.out]), (by repeat (first | exact Below.refl _ _ | refine below_step ?_ (by assumption) | refine below_step ?_ (Later.below _) | refine below_alloc ?_ _ | refine Below.drew ?_ | refine Below.setCell ?_ (by first | (simp; done) | (simp; omega)) _))⟩
  · have HN := hide (readS_no (s := s) (by omega))
    have hin : inB (s.size : Int) 1 6 = false := by rw [Bool.eq_false_iff, ne_eq, inB_iff]; omega
    go_enter Tryd.func38, Tryd.ntmps38
    go_wp2_with (go_at_call 44; ((with_reducible refine (l1In_any _ _ _ _).mono ?_); rintro e w' ⟨rfl, rfl⟩))
    go_ret
    exact ⟨ret_i64 HN.out.symm, (by repeat (first | exact Below.refl _ _ | refine below_step ?_ (by assumption) | refine below_step ?_ (Later.below _) | refine below_alloc ?_ _ | refine Below.drew ?_ | refine Below.setCell ?_ (by first | (simp; done) | (simp; omega)) _))⟩
end Go.Proofs.YtpkhdmhfkmajcaaDoor
