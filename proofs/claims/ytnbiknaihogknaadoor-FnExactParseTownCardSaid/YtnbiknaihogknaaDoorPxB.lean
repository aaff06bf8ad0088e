/- Several texts in one. The reference reads a number. The reference cuts a text at a byte. The program reads a number. -/
import Derived.Test.YtnbiknaihogknaaDoorPxA
import Derived.Lib.AtoiErrMem
namespace Go.Proofs.YtnbiknaihogknaaDoor
open Go.RowKit
set_option linter.unusedVariables false

theorem drop_at {s : ByteArray} {k : Nat} (h : k < s.size) : s.data.toList.drop k = s[k] :: s.data.toList.drop (k + 1) := List.drop_eq_getElem_cons (by simpa using h)
theorem readS_no {s : ByteArray} (h : s.size < 1 ∨ 6 < s.size ∨ (s.data[0]? = some 48 ∧ 1 < s.size)) : readS s = -1 := by rw [readS, if_pos h]
theorem readS_yes {s : ByteArray} (h : ¬ (s.size < 1 ∨ 6 < s.size ∨ (s.data[0]? = some 48 ∧ 1 < s.size))) : readS s = digs 0 s.data.toList := by rw [readS, if_neg h]
theorem ret_i64 {a b : Int} (h : a = b) : Ending.returned (.int .i64 a) = .returned (.int .i64 b) := by rw [h]
theorem digs_stop {s : ByteArray} {k n : Nat} (h : k < s.size) (hd : ¬ isDig s[k]) (h2 : digs n (s.data.toList.drop k) = digs 0 s.data.toList) : digs 0 s.data.toList = -1 := by
  rw [← h2, drop_at h, digs, if_pos ((dig_iff _).2 hd)]
theorem digs_go {s : ByteArray} {k n : Nat} (h : k < s.size) (hd : isDig s[k]) (h2 : digs n (s.data.toList.drop k) = digs 0 s.data.toList) : digs ((10 * n + (s[k].toNat - 48) : Nat) : Int) (s.data.toList.drop (k + 1)) = digs 0 s.data.toList := by
  rw [← h2, drop_at h, digs, if_neg (by rw [dig_iff]; exact fun k => k hd)]
  congr 1
  have := hd.1
  omega

set_option maxHeartbeats 2000000 in
theorem read_any (s : ByteArray) (w : World) (hs : s.size ≤ maxLen) :
    Calls Tryd.prog 10 #[.string s] w fun e w' => e = .returned (.int .i64 (readS s)) ∧ Below w.heap.size w w' := by
  unfold maxLen at hs
  by_cases h1 : 1 ≤ s.size ∧ s.size ≤ 6
  · have hin : inB (s.size : Int) 1 6 = true := by rw [inB_iff]; omega
    have hs1 : s.size ≤ 6 := h1.2
    have hs0 : 0 < s.size := h1.1
    by_cases h2 : s[0] = 48 ∧ 1 < s.size
    · have HN := hide (readS_no (s := s) (.inr (.inr ⟨by rw [← h2.1]; exact Array.getElem?_eq_getElem hs0, h2.2⟩)))
      have e0 : (s[0].toNat : Int) = 48 := by rw [h2.1]; rfl
      have e1 : ((1 : Int) < (s.size : Int)) = True := by simp; omega
      go_enter Tryd.func10, Tryd.ntmps10
      go_wp2_with (go_at_call 18; ((with_reducible refine (l1In_any _ _ _ _).mono ?_); rintro e w' ⟨rfl, rfl⟩))
      go_ret
      exact ⟨ret_i64 HN.out.symm, (by repeat (first | exact Below.refl _ _ | refine below_step ?_ (by assumption) | refine below_step ?_ (Later.below _) | refine below_alloc ?_ _ | refine Below.drew ?_ | refine Below.setCell ?_ (by first | (simp; done) | (simp; omega)) _))⟩
    · have HY := hide (readS_yes (s := s) (by
        rintro (h | h | ⟨h, h'⟩)
        · omega
        · omega
        · exact h2 ⟨by
            have := Array.getElem?_eq_getElem (xs := s.data) hs0
            rw [this] at h
            exact Option.some.inj h, h'⟩))
      have HQ : Hid (∀ Q : Prop, (s[0] ≠ 48 → Q) → (s.size = 1 → Q) → Q) := hide (fun Q ha hb => by
        by_cases h0 : s[0] = 48
        · exact hb (by have hn : ¬ 1 < s.size := fun h => h2 ⟨h0, h⟩; omega)
        · exact ha h0)
      clear h2
      by_cases hz : (s[0].toNat : Int) = 48
      · have e1 : ((1 : Int) < (s.size : Int)) = False := by
          simp only [eq_iff_iff, iff_false]
          refine HQ.out (¬ (1 : Int) < (s.size : Int)) (fun h => absurd ?_ h) (fun (h : s.size = 1) => ?_)
          · apply UInt8.toNat_inj.1
            rw [show (48 : UInt8).toNat = 48 from rfl]; omega
          · clear HQ; omega
        clear HQ
        go_enter Tryd.func10, Tryd.ntmps10
        go_wp2_with (go_at_call 18; ((with_reducible refine (l1In_any _ _ _ _).mono ?_); rintro e w' ⟨rfl, rfl⟩))
        go_loop [4, 3] (fun i v => ∃ k n : Nat, k ≤ s.size ∧ i = .int .i64 k ∧ v = .int .i64 n ∧ n < 1000000 ∧ Hid (n < 10 ^ k) ∧ Hid (digs n (s.data.toList.drop k) = digs 0 s.data.toList)) (fun i _ => s.size - (intOf i).toNat)
        case atStart => exact ⟨0, 0, Nat.zero_le _, rfl, rfl, by omega, hide (by simp), hide rfl⟩
        case round =>
          obtain ⟨k, n, hk, rfl, rfl, hn6, HP, HD⟩ := hrel
          by_cases hlt : k < s.size
          · by_cases h1 : (s[k].toNat : Int) < 48
            · have HE := hide (digs_stop hlt (by unfold isDig; omega) HD.out)
              go_wp2
              go_ret
              exact ⟨ret_i64 (by rw [HY.out, HE.out]), (by repeat (first | exact Below.refl _ _ | refine below_step ?_ (by assumption) | refine below_step ?_ (Later.below _) | refine below_alloc ?_ _ | refine Below.drew ?_ | refine Below.setCell ?_ (by first | (simp; done) | (simp; omega)) _))⟩
            · by_cases h2 : (57 : Int) < (s[k].toNat : Int)
              · have HE := hide (digs_stop hlt (by unfold isDig; omega) HD.out)
                go_wp2
                go_ret
                exact ⟨ret_i64 (by rw [HY.out, HE.out]), (by repeat (first | exact Below.refl _ _ | refine below_step ?_ (by assumption) | refine below_step ?_ (Later.below _) | refine below_alloc ?_ _ | refine Below.drew ?_ | refine Below.setCell ?_ (by first | (simp; done) | (simp; omega)) _))⟩
              · have hd : isDig s[k] := by unfold isDig; omega
                have HE := hide (digs_go hlt hd HD.out)
                have hp5 : n < 100000 := Nat.lt_of_lt_of_le HP.out (Nat.pow_le_pow_right (n := 10) (by omega) (show k ≤ 5 by omega))
                have HP2 : Hid (10 * n + (s[k].toNat - 48) < 10 ^ (k + 1)) := hide (by have := HP.out; have := hd.2; rw [Nat.pow_succ]; omega)
                have eu : IntKind.u8.wrap ((s[k].toNat : Int) - 48) = (s[k].toNat : Int) - 48 := by rw [IntKind.wrap_u8]; omega
                clear hd
                go_wp2
                go_round
                case rel => exact ⟨k + 1, 10 * n + (s[k].toNat - 48), by omega, by go_num, by go_num, by omega, HP2, HE⟩
                case measure => simp [intOf]; omega
          · have HZ : Hid ((n : Int) = digs 0 s.data.toList) := hide (by
              have := HD.out
              rw [List.drop_eq_nil_of_le (by rw [Array.length_toList]; show s.size ≤ k; omega)] at this
              exact this)
            go_wp2
            go_ret
            exact ⟨ret_i64 (by rw [HY.out, HZ.out]), (by repeat (first | exact Below.refl _ _ | refine below_step ?_ (by assumption) | refine below_step ?_ (Later.below _) | refine below_alloc ?_ _ | refine Below.drew ?_ | refine Below.setCell ?_ (by first | (simp; done) | (simp; omega)) _))⟩
      · clear HQ
        go_enter Tryd.func10, Tryd.ntmps10
        go_wp2_with (go_at_call 18; ((with_reducible refine (l1In_any _ _ _ _).mono ?_); rintro e w' ⟨rfl, rfl⟩))
        go_loop [4, 3] (fun i v => ∃ k n : Nat, k ≤ s.size ∧ i = .int .i64 k ∧ v = .int .i64 n ∧ n < 1000000 ∧ Hid (n < 10 ^ k) ∧ Hid (digs n (s.data.toList.drop k) = digs 0 s.data.toList)) (fun i _ => s.size - (intOf i).toNat)
        case atStart => exact ⟨0, 0, Nat.zero_le _, rfl, rfl, by omega, hide (by simp), hide rfl⟩
        case round =>
          obtain ⟨k, n, hk, rfl, rfl, hn6, HP, HD⟩ := hrel
          by_cases hlt : k < s.size
          · by_cases h1 : (s[k].toNat : Int) < 48
            · have HE := hide (digs_stop hlt (by unfold isDig; omega) HD.out)
              go_wp2
              go_ret
              exact ⟨ret_i64 (by rw [HY.out, HE.out]), (by repeat (first | exact Below.refl _ _ | refine below_step ?_ (by assumption) | refine below_step ?_ (Later.below _) | refine below_alloc ?_ _ | refine Below.drew ?_ | refine Below.setCell ?_ (by first | (simp; done) | (simp; omega)) _))⟩
            · by_cases h2 : (57 : Int) < (s[k].toNat : Int)
              · have HE := hide (digs_stop hlt (by unfold isDig; omega) HD.out)
                go_wp2
                go_ret
                exact ⟨ret_i64 (by rw [HY.out, HE.out]), (by repeat (first | exact Below.refl _ _ | refine below_step ?_ (by assumption) | refine below_step ?_ (Later.below _) | refine below_alloc ?_ _ | refine Below.drew ?_ | refine Below.setCell ?_ (by first | (simp; done) | (simp; omega)) _))⟩
              · have hd : isDig s[k] := by unfold isDig; omega
                have HE := hide (digs_go hlt hd HD.out)
                have hp5 : n < 100000 := Nat.lt_of_lt_of_le HP.out (Nat.pow_le_pow_right (n := 10) (by omega) (show k ≤ 5 by omega))
                have HP2 : Hid (10 * n + (s[k].toNat - 48) < 10 ^ (k + 1)) := hide (by have := HP.out; have := hd.2; rw [Nat.pow_succ]; omega)
                have eu : IntKind.u8.wrap ((s[k].toNat : Int) - 48) = (s[k].toNat : Int) - 48 := by rw [IntKind.wrap_u8]; omega
                clear hd
                go_wp2
                go_round
                case rel => exact ⟨k + 1, 10 * n + (s[k].toNat - 48), by omega, by go_num, by go_num, by omega, HP2, HE⟩
                case measure => simp [intOf]; omega
          · have HZ : Hid ((n : Int) = digs 0 s.data.toList) := hide (by
              have := HD.out
              rw [List.drop_eq_nil_of_le (by rw [Array.length_toList]; show s.size ≤ k; omega)] at this
              exact this)
            go_wp2
            go_ret
            exact ⟨ret_i64 (by rw [HY.out, HZ.out]), (by repeat (first | exact Below.refl _ _ | refine below_step ?_ (by assumption) | refine below_step ?_ (Later.below _) | refine below_alloc ?_ _ | refine Below.drew ?_ | refine Below.setCell ?_ (by first | (simp; done) | (simp; omega)) _))⟩
  · have HN := hide (readS_no (s := s) (by omega))
    have hin : inB (s.size : Int) 1 6 = false := by rw [Bool.eq_false_iff, ne_eq, inB_iff]; omega
    go_enter Tryd.func10, Tryd.ntmps10
    go_wp2_with (go_at_call 18; ((with_reducible refine (l1In_any _ _ _ _).mono ?_); rintro e w' ⟨rfl, rfl⟩))
    go_ret
    exact ⟨ret_i64 HN.out.symm, (by repeat (first | exact Below.refl _ _ | refine below_step ?_ (by assumption) | refine below_step ?_ (Later.below _) | refine below_alloc ?_ _ | refine Below.drew ?_ | refine Below.setCell ?_ (by first | (simp; done) | (simp; omega)) _))⟩
end Go.Proofs.YtnbiknaihogknaaDoor
namespace Go.Proofs.YtnbiknaihogknaaDoor
open Go.RowKit
set_option linter.unusedVariables false

theorem infoStrV : (Tryd.prog.info? 9).map (fun i => (i.zero, i.size, i.bytes)) = some (some (.string ByteArray.empty), 1, 16) := by kernel_rfl
def strV (L : List ByteArray) : List Value := L.map Value.string
theorem strV_append (L M : List ByteArray) : strV (L ++ M) = strV L ++ strV M := by simp [strV]
theorem strV_at {L : List ByteArray} {j : Nat} {x : ByteArray} (h : L[j]? = some x) : (strV L)[j]? = some (.string x) := by simp [strV, h]
/-- A list of texts in a row of the call's own. -/
def OwnV (w : World) (B : Nat) (L : List ByteArray) (v : Value) : Prop := w.ownsRow B 9 1 v L.length (strV L)
def TextsPost (L : List ByteArray) (w : World) (e : Ending) (w' : World) : Prop := (∃ v, e = .returned v ∧ OwnV w' w.heap.size L v) ∧ Below w.heap.size w w'
theorem splitS_eq (s : ByteArray) (b : UInt8) : splitS s b = (cutD s b s.size).1 ++ [s.extract (cutD s b s.size).2 s.size] := rfl
theorem cutD_yes {s : ByteArray} {b : UInt8} {i : Nat} (h : i < s.size) (hb : s[i] = b) : cutD s b (i + 1) = ((cutD s b i).1 ++ [s.extract (cutD s b i).2 i], i + 1) := by
  rw [cutD, if_pos]
  rw [← hb]; exact Array.getElem?_eq_getElem h
theorem cutD_no {s : ByteArray} {b : UInt8} {i : Nat} (h : i < s.size) (hb : s[i] ≠ b) : cutD s b (i + 1) = cutD s b i := by
  rw [cutD, if_neg]
  intro e
  have h2 : s.data[i]? = some s[i] := Array.getElem?_eq_getElem h
  rw [h2] at e
  exact hb (Option.some.inj e)

set_option maxRecDepth 100000 in
set_option maxHeartbeats 4000000 in
theorem split_any (s : ByteArray) (b : UInt8) (w : World) (hs : s.size ≤ 2000000) :
    Calls Tryd.prog 9 #[.string s, .int .u8 (b.toNat : Int)] w (TextsPost (splitS s b) w) := by
  obtain ⟨i0, hi0, hz0, hz1, hz2⟩ := info_parts infoStrV
  have Hi := hide hi0
  have Hz := hide (And.intro hz0 (And.intro hz1 hz2))
  clear hi0 hz0 hz1 hz2
  go_enter Tryd.func9, Tryd.ntmps9
  go_wp2_with fail
  go_loopw [7, 6, 5] (fun t f v wr => ∃ k m : Nat, k ≤ s.size ∧ m ≤ k ∧ t = .int .i64 k ∧ f = .int .i64 m ∧ Hid (m = (cutD s b k).2) ∧ Hid (OwnV wr w.heap.size (cutD s b k).1 v) ∧ Hid (Below w.heap.size w wr)) (fun t _ _ _ => s.size - (intOf t).toNat)
  case atStart => exact ⟨0, 0, by omega, by omega, rfl, rfl, hide rfl, hide (World.ownsRow_nil _ _ _ _), hide (Below.refl _ _)⟩
  case round =>
    obtain ⟨k, m, hk, hm, rfl, rfl, HM, HO, HB⟩ := hrel
    have hcl := (cutD_le s b k).2
    by_cases hlt : k < s.size
    · by_cases hbb : s[k] = b
      · have e0 : (s[k].toNat : Int) = (b.toNat : Int) := by rw [hbb]
        have HD := hide (cutD_yes hlt hbb)
        have HOA := hide (World.ownsRow.alloc HO.out (.cells #[.string (s.extract m k)] 9))
        have HNC := hide (show ∀ (j : Nat) (u : Value), [Value.string (s.extract m k)][j]? = some u → (wr.alloc (.cells #[.string (s.extract m k)] 9)).cell? ((⟨wr.heap.size, 0, none⟩ : Addr).add j) = some u from fun j u hu => by rw [Addr.add_lit, Nat.zero_add]; exact (Row.new _ _ _).2.1 j u hu)
        have HWZ : Hid (w.heap.size ≤ (wr.alloc (.cells #[.string (s.extract m k)] 9)).heap.size) := hide (by have := HB.out.size; simp; omega)
        have HBL := hide (fun q hq => (HO.out.lt q hq).1)
        go_wp2_with (at_builtin; refine wpList_append_own _ rfl (.tmp 19) (.tmp 24) 30 rfl w.heap.size 9 i0 (.string ByteArray.empty) 1 16 Tryd.underlying30 Hi.out Hz.out.1 Hz.out.2.1 Hz.out.2.2 rfl (by decide) _ _ _ rfl HOA.out ⟨wr.heap.size, 0, none⟩ 1 1 [.string (s.extract m k)] rfl rfl HNC.out ?c1 ?c2 ?c3 HWZ.out ?_)
        case c1 => simp [Value.oneCell']
        case c2 => unfold maxLen; omega
        case c3 => omega
        intro v' w5 hown hgrow _
        have HB5 := hide ((below_alloc HB.out _).grown hgrow (by have := HB.out.size; simp; omega) HBL.out)
        have HO5 := hide hown
        clear hown hgrow HOA HNC HWZ HBL
        go_wp2
        go_roundw
        case rel => exact ⟨k + 1, k + 1, by omega, by omega, by go_num, by go_num, hide (by rw [HD.out]), hide (by rw [HD.out]; unfold OwnV; dsimp only; rw [List.length_append, strV_append, ← HM.out]; exact HO5.out), HB5⟩
        case measure => simp [intOf]; omega
      · have e0 : ¬ (s[k].toNat : Int) = (b.toNat : Int) := fun e => hbb (UInt8.toNat_inj.1 (by omega))
        have HD := hide (cutD_no hlt hbb)
        clear hbb
        go_wp2
        go_roundw
        case rel => exact ⟨k + 1, m, by omega, by omega, by go_num, rfl, hide (by rw [HD.out]; exact HM.out), hide (by rw [HD.out]; exact HO.out), HB⟩
        case measure => simp [intOf]; omega
    · obtain rfl : k = s.size := by omega
      have HOA := hide (World.ownsRow.alloc HO.out (.cells #[.string (s.extract m s.size)] 9))
      have HNC := hide (show ∀ (j : Nat) (u : Value), [Value.string (s.extract m s.size)][j]? = some u → (wr.alloc (.cells #[.string (s.extract m s.size)] 9)).cell? ((⟨wr.heap.size, 0, none⟩ : Addr).add j) = some u from fun j u hu => by rw [Addr.add_lit, Nat.zero_add]; exact (Row.new _ _ _).2.1 j u hu)
      have HWZ : Hid (w.heap.size ≤ (wr.alloc (.cells #[.string (s.extract m s.size)] 9)).heap.size) := hide (by have := HB.out.size; simp; omega)
      have HBL := hide (fun q hq => (HO.out.lt q hq).1)
      go_wp2_with (at_builtin; refine wpList_append_own _ rfl (.tmp 28) (.tmp 32) 30 rfl w.heap.size 9 i0 (.string ByteArray.empty) 1 16 Tryd.underlying30 Hi.out Hz.out.1 Hz.out.2.1 Hz.out.2.2 rfl (by decide) _ _ _ rfl HOA.out ⟨wr.heap.size, 0, none⟩ 1 1 [.string (s.extract m s.size)] rfl rfl HNC.out ?c1 ?c2 ?c3 HWZ.out ?_)
      case c1 => simp [Value.oneCell']
      case c2 => unfold maxLen; omega
      case c3 => omega
      intro v' w5 hown hgrow _
      have HB5 := hide ((below_alloc HB.out _).grown hgrow (by have := HB.out.size; simp; omega) HBL.out)
      have HO5 := hide hown
      clear hown hgrow HOA HNC HWZ HBL
      go_wp2
      go_ret
      exact ⟨⟨_, rfl, by rw [splitS_eq, ← HM.out]; unfold OwnV; rw [List.length_append, strV_append]; exact HO5.out⟩, HB5.out⟩
end Go.Proofs.YtnbiknaihogknaaDoor
namespace Go.Proofs.YtnbiknaihogknaaDoor
open Go.RowKit
set_option linter.unusedVariables false

theorem atoi_bounds {l : List UInt8} {v : Int} (h : Lib.atoiAll l = .ok v) : -9223372036854775808 ≤ v ∧ v ≤ 9223372036854775807 := by
  unfold Lib.atoiAll at h
  cases l with
  | nil => cases h
  | cons c r =>
    dsimp only at h
    split at h
    · cases h
    · cases h
    · rename_i u hu
      split at h
      · cases h
      · rename_i h1
        split at h
        · cases h
        · rename_i h2
          injection h with h
          by_cases hn : c.toNat = 45
          · rw [if_pos hn] at h
            have : ¬ 9223372036854775808 < u := fun hh => h2 ⟨hn, hh⟩
            omega
          · rw [if_neg hn] at h
            have : ¬ 9223372036854775808 ≤ u := fun hh => h1 ⟨hn, hh⟩
            omega
theorem sat_bounds (l : List UInt8) : -9223372036854775808 ≤ Lib.atoiSat l ∧ Lib.atoiSat l ≤ 9223372036854775807 := by
  unfold Lib.atoiSat; split <;> omega
theorem text_eq_iff (l : List UInt8) (s : ByteArray) : ((⟨l.toArray⟩ : ByteArray) = s) ↔ l = s.data.toList := by
  constructor
  · rintro rfl; rfl
  · intro h; apply ByteArray.ext; apply Array.ext'; exact h
theorem texts_eq (a b : ByteArray) : (a.toList == b.toList) = decide (a = b) := by
  rw [ByteArray.toList_eq, ByteArray.toList_eq]
  by_cases h : a = b
  · subst h; simp
  · rw [decide_eq_false h, beq_eq_false_iff_ne]
    exact fun e => h (by apply ByteArray.ext; apply Array.ext'; exact e)
/-- A variable's reading stays. -/
theorem var_below {w w' : World} {nm : String} {x : Array Value} (hg : (Tryd.prog.globalNamed nm).isSome = true) (h : w.var? Tryd.prog nm = some x) (hb : Below w.heap.size w w') : w'.var? Tryd.prog nm = some x := by
  obtain ⟨g, hg⟩ := Option.isSome_iff_exists.1 hg
  unfold World.var? at h ⊢
  rw [hg] at h ⊢
  simp only [Option.bind_some] at h ⊢
  have hlt : g < w.heap.size := by
    rcases Nat.lt_or_ge g w.heap.size with h' | h'
    · exact h'
    · rw [Array.getElem?_eq_none h'] at h; cases h
  rw [hb.block g hlt]
  exact h
/-- What the program's reading of numbers leans on: the table, both errors. -/
structure NumEnv (w : World) : Prop where
  tab : Tab w
  syn : ∃ t p, w.var? Tryd.prog "strconv.ErrSyntax" = some #[.iface t p]
  rng : ∃ t p, w.var? Tryd.prog "strconv.ErrRange" = some #[.iface t p]
theorem NumEnv.below {w w' : World} (h : NumEnv w) (hb : Below w.heap.size w w') : NumEnv w' :=
  ⟨tab_below h.tab hb, let ⟨t, p, e⟩ := h.syn; ⟨t, p, var_below (by kernel_rfl) e hb⟩, let ⟨t, p, e⟩ := h.rng; ⟨t, p, var_below (by kernel_rfl) e hb⟩⟩
theorem rn_none {s : ByteArray} (h : (∀ v, Lib.atoiAll s.data.toList ≠ .ok v) ∧ Lib.atoiAll s.data.toList ≠ .range) : rnV s = 0 ∧ rnOk s = false := by
  unfold rnV rnOk
  cases e : Lib.atoiAll s.data.toList with
  | ok v => exact absurd e (h.1 v)
  | range => exact absurd e h.2
  | _ => exact ⟨rfl, rfl⟩
theorem rn_range {s : ByteArray} (h : Lib.atoiAll s.data.toList = .range) : rnV s = Lib.atoiSat s.data.toList ∧ rnOk s = false := by
  unfold rnV rnOk; rw [h]; exact ⟨rfl, rfl⟩
theorem rn_good {s : ByteArray} {v : Int} (h : Lib.atoiAll s.data.toList = .ok v) : rnV s = v ∧ rnOk s = decide ((⟨(Lib.itoa v).toArray⟩ : ByteArray) = s) := by
  unfold rnV rnOk; rw [h]
  exact ⟨rfl, decide_eq_decide.2 (text_eq_iff _ _).symm⟩
theorem ret_num {a b : Int} {c d : Bool} (h : b = a) (h2 : d = c) : Ending.returned (.tuple #[.int .i64 a, .bool c]) = .returned (.tuple #[.int .i64 b, .bool d]) := by rw [h, h2]

set_option maxHeartbeats 2000000 in
theorem readNumber_any (s : ByteArray) (w : World) (hs : s.size ≤ 2000000) (he : NumEnv w) :
    Calls Tryd.prog 23 #[.string s] w fun e w' => e = .returned (.tuple #[.int .i64 (rnV s), .bool (rnOk s)]) ∧ Below w.heap.size w w' := by
  have HE := hide he
  clear he
  by_cases hok : ∃ v, Lib.atoiAll s.data.toList = .ok v
  · obtain ⟨v, h⟩ := hok
    have Q := hide (Tryd.strconv_Atoi_ok s (by omega) v h w)
    have HR := hide (rn_good h)
    have hv := atoi_bounds h
    clear h
    go_enter Tryd.func23, Tryd.ntmps23
    go_wp2_with fail
    refine Q.out.mono ?_
    rintro e w1 ⟨rfl, hq⟩
    have HB : Hid (Below w.heap.size w w1) := hide (by
      rcases hq with rfl | ⟨t, rfl⟩
      · exact Below.refl _ _
      · exact Lib.bytesWorld_below _ _ _)
    have QI := hide (Tryd.strconv_Itoa v (by omega) (by omega) w1 (HE.out.below HB.out).tab)
    clear hq Q hv
    go_wp2_with fail
    refine QI.out.mono ?_
    rintro e w2 ⟨rfl, hk⟩
    have HB2 : Hid (Below w.heap.size w w2) := hide (by
      obtain ⟨k, os, rfl⟩ := hk
      exact below_step HB.out (below_grow _ _ _))
    clear hk QI
    generalize (⟨(Lib.itoa v).toArray⟩ : ByteArray) = x at *
    by_cases hx : x = s
    · subst hx
      go_wp2_with fail
      go_ret2
      exact ⟨ret_num HR.out.1 (by rw [HR.out.2]; simp), HB2.out⟩
    · go_wp2_with fail
      go_ret2
      exact ⟨ret_num HR.out.1 (by rw [HR.out.2]; exact (texts_eq _ _).symm), HB2.out⟩
  · by_cases h : Lib.atoiAll s.data.toList = .range
    · obtain ⟨t, p, hv⟩ := HE.out.rng
      have Q := hide (Tryd.strconv_Atoi_range_var s (by omega) h t p w hv)
      have HR := hide (rn_range h)
      generalize Lib.atoiSat s.data.toList = v at *
      clear h hok hv
      go_enter Tryd.func23, Tryd.ntmps23
      go_wp2_with fail
      refine Q.out.mono ?_
      rintro e w1 ⟨N, rfl, -, -, hq⟩
      have HB := hide hq
      clear hq Q
      go_wp2_with fail
      go_ret2
      exact ⟨ret_num HR.out.1 HR.out.2, HB.out⟩
    · have h3 : (∀ v, Lib.atoiAll s.data.toList ≠ .ok v) ∧ Lib.atoiAll s.data.toList ≠ .range := ⟨fun v e => hok ⟨v, e⟩, h⟩
      obtain ⟨t, p, hv⟩ := HE.out.syn
      have Q := hide (Tryd.strconv_Atoi_none_var s (by omega) h3 t p w hv)
      have HR := hide (rn_none h3)
      clear h h3 hok hv
      go_enter Tryd.func23, Tryd.ntmps23
      go_wp2_with fail
      refine Q.out.mono ?_
      rintro e w1 ⟨N, rfl, -, -, hq⟩
      have HB := hide hq
      clear hq Q
      go_wp2_with fail
      go_ret2
      exact ⟨ret_num HR.out.1 HR.out.2, HB.out⟩
end Go.Proofs.YtnbiknaihogknaaDoor
