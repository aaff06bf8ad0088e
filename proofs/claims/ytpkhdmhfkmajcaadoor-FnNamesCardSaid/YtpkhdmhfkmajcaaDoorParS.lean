/- The reference cuts a text at a byte. -/
import Derived.Test.YtpkhdmhfkmajcaaDoorParR
namespace Go.Proofs.YtpkhdmhfkmajcaaDoor
open Go.RowKit
set_option linter.unusedVariables false

theorem infoStrV : (Tryd.prog.info? 9).map (fun i => (i.zero, i.size, i.bytes)) = some (some (.string ByteArray.empty), 1, 16) := by kernel_rfl
def strV (L : List ByteArray) : List Value := L.map Value.string
theorem strV_append (L M : List ByteArray) : strV (L ++ M) = strV L ++ strV M := by simp [strV]
theorem strV_at {L : List ByteArray} {j : Nat} {x : ByteArray} (h : L[j]? = some x) : (strV L)[j]? = some (.string x) := by simp [strV, h]
/-- A list of texts in a row of the call's own. -/
def OwnV (w : World) (B : Nat) (L : List ByteArray) (v : Value) : Prop := w.ownsRow B 9 1 v L.length (strV L)
def TextsPost (L : List ByteArray) (w : World) (e : Ending) (w' : World) : Prop := (∃ v, e = .returned v ∧ OwnV w' w.heap.size L v) ∧ Below w.heap.size w w'
theorem splitS_eq (s : ByteArray) (b : UInt8) : splitS s b = (cutD s b s.size).1 ++ [s.extract (cutD s b s.size).2 s.size] := rfl
theorem cutD_yes {s : ByteArray} {b : UInt8} {i : Nat} (h : i < s.size) (hb : s[i] = b) : cutD s b (i + 1) = ((cutD s b i).1 ++ [s.extract (cutD s b i).2 i], i + 1) := by
  rw [cutD, if_pos]
  rw [← hb]; exact Array.getElem?_eq_getElem h
theorem cutD_no {s : ByteArray} {b : UInt8} {i : Nat} (h : i < s.size) (hb : s[i] ≠ b) : cutD s b (i + 1) = cutD s b i := by
  rw [cutD, if_neg]
  intro e
  have h2 : s.data[i]? = some s[i] := Array.getElem?_eq_getElem h
  rw [h2] at e
  exact hb (Option.some.inj e)

set_option maxRecDepth 100000 in
set_option maxHeartbeats 4000000 in
theorem split_any (s : ByteArray) (b : UInt8) (w : World) (hs : s.size ≤ 2000000) :
    Calls Tryd.prog 36 #[.string s, .int .u8 (b.toNat : Int)] w (TextsPost (splitS s b) w) := by
  obtain ⟨i0, hi0, hz0, hz1, hz2⟩ := info_parts infoStrV
  have Hi := hide hi0
  have Hz := hide (And.intro hz0 (And.intro hz1 hz2))
  clear hi0 hz0 hz1 hz2
  go_enter Tryd.func36, Tryd.ntmps36
  go_wp2_with fail
  go_loopw [7, 6, 5] (fun t f v wr => ∃ k m : Nat, k ≤ s.size ∧ m ≤ k ∧ t = .int .i64 k ∧ f = .int .i64 m ∧ Hid (m = (cutD s b k).2) ∧ Hid (OwnV wr w.heap.size (cutD s b k).1 v) ∧ Hid (Below w.heap.size w wr)) (fun t _ _ _ => s.size - (intOf t).toNat)
  case atStart => exact ⟨0, 0, by omega, by omega, rfl, rfl, hide rfl, hide (World.ownsRow_nil _ _ _ _), hide (Below.refl _ _)⟩
  case round =>
    obtain ⟨k, m, hk, hm, rfl, rfl, HM, HO, HB⟩ := hrel
    have hcl := (cutD_le s b k).2
    by_cases hlt : k < s.size
    · by_cases hbb : s[k] = b
      · have e0 : (s[k].toNat : Int) = (b.toNat : Int) := by rw [hbb]
        have HD := hide (cutD_yes hlt hbb)
        have HOA := hide (World.ownsRow.alloc HO.out (.cells #[.string (s.extract m k)] 9))
        have HNC := hide (show ∀ (j : Nat) (u : Value), [Value.string (s.extract m k)][j]? = some u → (wr.alloc (.cells #[.string (s.extract m k)] 9)).cell? ((⟨wr.heap.size, 0, none⟩ : Addr).add j) = some u from fun j u hu => by rw [Addr.add_lit, Nat.zero_add]; exact (Row.new _ _ _).2.1 j u hu)
        have HWZ : Hid (w.heap.size ≤ (wr.alloc (.cells #[.string (s.extract m k)] 9)).heap.size) := hide (by have := HB.out.size; simp; omega)
        have HBL := hide (fun q hq => (HO.out.lt q hq).1)
        go_wp2_with (at_builtin; refine wpList_append_own _ rfl (.tmp 19) (.tmp 24) 26 rfl w.heap.size 9 i0 (.string ByteArray.empty) 1 16 Tryd.underlying26 Hi.out Hz.out.1 Hz.out.2.1 Hz.out.2.2 rfl (by decide) _ _ _ rfl HOA.out ⟨wr.heap.size, 0, none⟩ 1 1 [.string (s.extract m k)] rfl rfl HNC.out ?c1 ?c2 ?c3 HWZ.out ?_)
        case c1 => simp [Value.oneCell']
        case c2 => unfold maxLen; omega
        case c3 => omega
        intro v' w5 hown hgrow _
        have HB5 := hide ((below_alloc HB.out _).grown hgrow (by have := HB.out.size; simp; omega) HBL.out)
        have HO5 := hide hown
        clear hown hgrow HOA HNC HWZ HBL
        go_wp2
        go_roundw
        case rel => exact ⟨k + 1, k + 1, by omega, by omega, by go_num, by go_num, hide (by rw [HD.out]), hide (by rw [HD.out]; unfold OwnV; dsimp only; rw [List.length_append, strV_append, ← HM.out]; exact HO5.out), HB5⟩
        case measure => simp [intOf]; omega
      · have e0 : ¬ (s[k].toNat : Int) = (b.toNat : Int) := fun e => hbb (UInt8.toNat_inj.1 (by omega))
        have HD := hide (cutD_no hlt hbb)
        clear hbb
        go_wp2
        go_roundw
        case rel => exact ⟨k + 1, m, by omega, by omega, by go_num, rfl, hide (by rw [HD.out]; exact HM.out), hide (by rw [HD.out]; exact HO.out), HB⟩
        case measure => simp [intOf]; omega
    · obtain rfl : k = s.size := by omega
      have HOA := hide (World.ownsRow.alloc HO.out (.cells #[.string (s.extract m s.size)] 9))
      have HNC := hide (show ∀ (j : Nat) (u : Value), [Value.string (s.extract m s.size)][j]? = some u → (wr.alloc (.cells #[.string (s.extract m s.size)] 9)).cell? ((⟨wr.heap.size, 0, none⟩ : Addr).add j) = some u from fun j u hu => by rw [Addr.add_lit, Nat.zero_add]; exact (Row.new _ _ _).2.1 j u hu)
      have HWZ : Hid (w.heap.size ≤ (wr.alloc (.cells #[.string (s.extract m s.size)] 9)).heap.size) := hide (by have := HB.out.size; simp; omega)
      have HBL := hide (fun q hq => (HO.out.lt q hq).1)
      go_wp2_with (at_builtin; refine wpList_append_own _ rfl (.tmp 28) (.tmp 32) 26 rfl w.heap.size 9 i0 (.string ByteArray.empty) 1 16 Tryd.underlying26 Hi.out Hz.out.1 Hz.out.2.1 Hz.out.2.2 rfl (by decide) _ _ _ rfl HOA.out ⟨wr.heap.size, 0, none⟩ 1 1 [.string (s.extract m s.size)] rfl rfl HNC.out ?c1 ?c2 ?c3 HWZ.out ?_)
      case c1 => simp [Value.oneCell']
      case c2 => unfold maxLen; omega
      case c3 => omega
      intro v' w5 hown hgrow _
      have HB5 := hide ((below_alloc HB.out _).grown hgrow (by have := HB.out.size; simp; omega) HBL.out)
      have HO5 := hide hown
      clear hown hgrow HOA HNC HWZ HBL
      go_wp2
      go_ret
      exact ⟨⟨_, rfl, by rw [splitS_eq, ← HM.out]; unfold OwnV; rw [List.length_append, strV_append]; exact HO5.out⟩, HB5.out⟩
end Go.Proofs.YtpkhdmhfkmajcaaDoor
