/- The laws' mark texts. -/
import Derived.Test.YtobdebagijmkjaaSmall
import Derived.Test.YtobdebagijmkjaaOwn
import Derived.Laws.IdiomStrings
namespace Go.Proofs.Ytobdebagijmkjaa
open Go.RowKit
set_option linter.unusedVariables false

/-- The digits of k, ahead of a text. -/
def mdig : Nat → Nat → ByteArray → ByteArray
  | 0, _, o => o
  | f + 1, k, o => if k = 0 then o else mdig f (k / 10) (⟨#[UInt8.ofNat (48 + k % 10)]⟩ ++ o)
theorem mdig_zero : ∀ (f : Nat) (o : ByteArray), mdig f 0 o = o
  | 0, _ => rfl
  | f + 1, o => by rw [mdig, if_pos rfl]
def mtext (k : Nat) : ByteArray := "m".toUTF8 ++ mdig k k ByteArray.empty

set_option maxHeartbeats 4000000 in
theorem markText_any (k : Nat) (w : World) (hk0 : 1 ≤ k) (hk : k ≤ 1099511627776) :
    Calls Try.prog 48 #[.int .i64 (k : Int)] w fun e w' => e = .returned (.string (mtext k)) ∧ Below w.heap.size w w' := by
  go_enter Try.func48, Try.ntmps48
  have h1 : (0 : Int) < (k : Int) := by omega
  go_wp2_with fail
  go_loopw [0, 3] (fun t v wr => ∃ (q f : Nat) (o : ByteArray), o.size + q ≤ k ∧ q ≤ f ∧ t = .int .i64 q ∧ v = .string o ∧ Hid (mdig k k ByteArray.empty = mdig f q o) ∧ Hid (Below w.heap.size w wr)) (fun t _ _ => (intOf t).toNat)
  case atStart => exact ⟨k, k, ByteArray.empty, by simp, Nat.le_refl _, rfl, rfl, hide rfl, hide (Below.refl _ _)⟩
  case round =>
    obtain ⟨q, f, o, hqk, hqf, rfl, rfl, HM, HB⟩ := hrel
    by_cases hq : 0 < q
    · have hq0 : (0 : Int) < (q : Int) := by omega
      have e1 : Int.tmod (q : Int) 10 = ((q % 10 : Nat) : Int) := by rw [Int.tmod_eq_emod_of_nonneg (by omega)]; omega
      have e2 : Int.tdiv (q : Int) 10 = ((q / 10 : Nat) : Int) := by rw [Int.tdiv_eq_ediv_of_nonneg (by omega)]; omega
      have hb : q % 10 < 10 := Nat.mod_lt _ (by omega)
      have hu : ((UInt8.ofNat (48 + q % 10)).toNat : Int) = 48 + (q : Int) % 10 := by
        rw [UInt8.toNat_ofNat_of_lt' (show 48 + q % 10 < 256 by omega)]; omega
      have hcv := run_convert_bytes_back (P := Try.prog) (wr.alloc (.cells #[.int .u8 (48 + (q : Int) % 10)] 5)) 44 9 5 ⟨wr.heap.size, 0, none⟩ 1 [UInt8.ofNat (48 + q % 10)] (by kernel_rfl) (by kernel_rfl) (by kernel_rfl) (fun j hj => by
        have hj0 : j = 0 := by simpa using hj
        subst hj0
        rw [Addr.add_lit]
        show (wr.alloc (.cells #[.int .u8 (48 + (q : Int) % 10)] 5)).cell? ⟨wr.heap.size, 0 + 0, none⟩ = some (.int .u8 ((UInt8.ofNat (48 + q % 10)).toNat : Int))
        rw [hu]
        exact (Row.new wr #[.int .u8 (48 + (q : Int) % 10)] 5).2.1 0 _ rfl)
      simp only [List.length_singleton] at hcv
      have HN := hide (show mdig k k ByteArray.empty = mdig (f - 1) (q / 10) (⟨#[UInt8.ofNat (48 + q % 10)]⟩ ++ o) by
        rw [HM.out, show f = (f - 1) + 1 by omega, mdig, if_neg (by omega)]; rfl)
      have HQ10 := hide (show (q : Int) / 10 = ((q / 10 : Nat) : Int) by omega)
      have hle : q / 10 < q := Nat.div_lt_self hq (by omega)
      have e3 : IntKind.u8.wrap (48 + (q : Int) % 10) = 48 + (q : Int) % 10 := by rw [IntKind.wrap_u8]; omega
      clear hu e1 e2
      have hos : o.size ≤ 1099511627776 := by omega
      go_wp2
      go_roundw
      case rel => exact ⟨q / 10, f - 1, _, by rw [ByteArray.size_append]; show 1 + o.size + q / 10 ≤ k; omega, by omega, by first | exact congrArg _ HQ10.out | (simp; omega), rfl, hide (by rw [HN.out, UInt8.ofNat_add]; rfl), hide (below_alloc HB.out _)⟩
      case measure => simp [intOf]; omega
    · have hq2 : q = 0 := by omega
      have HE := hide (show mdig k k ByteArray.empty = o by rw [HM.out, hq2, mdig_zero])
      have hq3 : (q : Int) = 0 := by omega
      clear hq2
      go_wp2
      go_ret
      exact ⟨by rw [mtext, HE.out]; rfl, HB.out⟩
theorem markTextZ_any (t : Int) (w : World) (h0 : 1 ≤ t) (h1 : t ≤ 1099511627776) :
    Calls Try.prog 48 #[.int .i64 t] w fun e w' => e = .returned (.string (mtext t.toNat)) ∧ Below w.heap.size w w' := by
  obtain ⟨k, rfl⟩ := Int.eq_ofNat_of_zero_le (show 0 ≤ t by omega)
  exact markText_any k w (by omega) (by omega)
end Go.Proofs.Ytobdebagijmkjaa
