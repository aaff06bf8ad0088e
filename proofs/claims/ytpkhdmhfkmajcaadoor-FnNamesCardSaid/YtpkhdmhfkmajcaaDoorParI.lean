/- The program reads a number. -/
import Derived.Test.YtpkhdmhfkmajcaaDoorParS
import Derived.Lib.AtoiErrMem
namespace Go.Proofs.YtpkhdmhfkmajcaaDoor
open Go.RowKit
set_option linter.unusedVariables false

theorem atoi_bounds {l : List UInt8} {v : Int} (h : Lib.atoiAll l = .ok v) : -9223372036854775808 ≤ v ∧ v ≤ 9223372036854775807 := by
  unfold Lib.atoiAll at h
  cases l with
  | nil => cases h
  | cons c r =>
    dsimp only at h
    split at h
    · cases h
    · cases h
    · rename_i u hu
      split at h
      · cases h
      · rename_i h1
        split at h
        · cases h
        · rename_i h2
          injection h with h
          by_cases hn : c.toNat = 45
          · rw [if_pos hn] at h
            have : ¬ 9223372036854775808 < u := fun hh => h2 ⟨hn, hh⟩
            omega
          · rw [if_neg hn] at h
            have : ¬ 9223372036854775808 ≤ u := fun hh => h1 ⟨hn, hh⟩
            omega
theorem sat_bounds (l : List UInt8) : -9223372036854775808 ≤ Lib.atoiSat l ∧ Lib.atoiSat l ≤ 9223372036854775807 := by
  unfold Lib.atoiSat; split <;> omega
theorem text_eq_iff (l : List UInt8) (s : ByteArray) : ((⟨l.toArray⟩ : ByteArray) = s) ↔ l = s.data.toList := by
  constructor
  · rintro rfl; rfl
  · intro h; apply ByteArray.ext; apply Array.ext'; exact h
theorem texts_eq (a b : ByteArray) : (a.toList == b.toList) = decide (a = b) := by
  rw [ByteArray.toList_eq, ByteArray.toList_eq]
  by_cases h : a = b
  · subst h; simp
  · rw [decide_eq_false h, beq_eq_false_iff_ne]
    exact fun e => h (by apply ByteArray.ext; apply Array.ext'; exact e)
/-- A variable's reading stays. -/
theorem var_below {w w' : World} {nm : String} {x : Array Value} (hg : (Tryd.prog.globalNamed nm).isSome = true) (h : w.var? Tryd.prog nm = some x) (hb : Below w.heap.size w w') : w'.var? Tryd.prog nm = some x := by
  obtain ⟨g, hg⟩ := Option.isSome_iff_exists.1 hg
  unfold World.var? at h ⊢
  rw [hg] at h ⊢
  simp only [Option.bind_some] at h ⊢
  have hlt : g < w.heap.size := by
    rcases Nat.lt_or_ge g w.heap.size with h' | h'
    · exact h'
    · rw [Array.getElem?_eq_none h'] at h; cases h
  rw [hb.block g hlt]
  exact h
/-- What the program's reading of numbers leans on: the table, both errors. -/
structure NumEnv (w : World) : Prop where
  tab : Tab w
  syn : ∃ t p, w.var? Tryd.prog "strconv.ErrSyntax" = some #[.iface t p]
  rng : ∃ t p, w.var? Tryd.prog "strconv.ErrRange" = some #[.iface t p]
theorem NumEnv.below {w w' : World} (h : NumEnv w) (hb : Below w.heap.size w w') : NumEnv w' :=
  ⟨tab_below h.tab hb, let ⟨t, p, e⟩ := h.syn; ⟨t, p, var_below (by kernel_rfl) e hb⟩, let ⟨t, p, e⟩ := h.rng; ⟨t, p, var_below (by kernel_rfl) e hb⟩⟩
theorem rn_none {s : ByteArray} (h : (∀ v, Lib.atoiAll s.data.toList ≠ .ok v) ∧ Lib.atoiAll s.data.toList ≠ .range) : rnV s = 0 ∧ rnOk s = false := by
  unfold rnV rnOk
  cases e : Lib.atoiAll s.data.toList with
  | ok v => exact absurd e (h.1 v)
  | range => exact absurd e h.2
  | _ => exact ⟨rfl, rfl⟩
theorem rn_range {s : ByteArray} (h : Lib.atoiAll s.data.toList = .range) : rnV s = Lib.atoiSat s.data.toList ∧ rnOk s = false := by
  unfold rnV rnOk; rw [h]; exact ⟨rfl, rfl⟩
theorem rn_good {s : ByteArray} {v : Int} (h : Lib.atoiAll s.data.toList = .ok v) : rnV s = v ∧ rnOk s = decide ((⟨(Lib.itoa v).toArray⟩ : ByteArray) = s) := by
  unfold rnV rnOk; rw [h]
  exact ⟨rfl, decide_eq_decide.2 (text_eq_iff _ _).symm⟩
theorem ret_num {a b : Int} {c d : Bool} (h : b = a) (h2 : d = c) : Ending.returned (.tuple #[.int .i64 a, .bool c]) = .returned (.tuple #[.int .i64 b, .bool d]) := by rw [h, h2]

set_option maxHeartbeats 2000000 in
theorem readNumber_any (s : ByteArray) (w : World) (hs : s.size ≤ 2000000) (he : NumEnv w) :
    Calls Tryd.prog 35 #[.string s] w fun e w' => e = .returned (.tuple #[.int .i64 (rnV s), .bool (rnOk s)]) ∧ Below w.heap.size w w' := by
  have HE := hide he
  clear he
  by_cases hok : ∃ v, Lib.atoiAll s.data.toList = .ok v
  · obtain ⟨v, h⟩ := hok
    have Q := hide (Tryd.strconv_Atoi_ok s (by omega) v h w)
    have HR := hide (rn_good h)
    have hv := atoi_bounds h
    clear h
    go_enter Tryd.func35, Tryd.ntmps35
    go_wp2_with fail
    refine Q.out.mono ?_
    rintro e w1 ⟨rfl, hq⟩
    have HB : Hid (Below w.heap.size w w1) := hide (by
      rcases hq with rfl | ⟨t, rfl⟩
      · exact Below.refl _ _
      · exact Lib.bytesWorld_below _ _ _)
    have QI := hide (Tryd.strconv_Itoa v (by omega) (by omega) w1 (HE.out.below HB.out).tab)
    clear hq Q hv
    go_wp2_with fail
    refine QI.out.mono ?_
    rintro e w2 ⟨rfl, hk⟩
    have HB2 : Hid (Below w.heap.size w w2) := hide (by
      obtain ⟨k, os, rfl⟩ := hk
      exact below_step HB.out (below_grow _ _ _))
    clear hk QI
    generalize (⟨(Lib.itoa v).toArray⟩ : ByteArray) = x at *
    by_cases hx : x = s
    · subst hx
      go_wp2_with fail
      go_ret2
      exact ⟨ret_num HR.out.1 (by rw [HR.out.2]; simp), HB2.out⟩
    · go_wp2_with fail
      go_ret2
      exact ⟨ret_num HR.out.1 (by rw [HR.out.2]; exact (texts_eq _ _).symm), HB2.out⟩
  · by_cases h : Lib.atoiAll s.data.toList = .range
    · obtain ⟨t, p, hv⟩ := HE.out.rng
      have Q := hide (Tryd.strconv_Atoi_range_var s (by omega) h t p w hv)
      have HR := hide (rn_range h)
      generalize Lib.atoiSat s.data.toList = v at *
      clear h hok hv
      go_enter Tryd.func35, Tryd.ntmps35
      go_wp2_with fail
      refine Q.out.mono ?_
      rintro e w1 ⟨N, rfl, -, -, hq⟩
      have HB := hide hq
      clear hq Q
      go_wp2_with fail
      go_ret2
      exact ⟨ret_num HR.out.1 HR.out.2, HB.out⟩
    · have h3 : (∀ v, Lib.atoiAll s.data.toList ≠ .ok v) ∧ Lib.atoiAll s.data.toList ≠ .range := ⟨fun v e => hok ⟨v, e⟩, h⟩
      obtain ⟨t, p, hv⟩ := HE.out.syn
      have Q := hide (Tryd.strconv_Atoi_none_var s (by omega) h3 t p w hv)
      have HR := hide (rn_none h3)
      clear h h3 hok hv
      go_enter Tryd.func35, Tryd.ntmps35
      go_wp2_with fail
      refine Q.out.mono ?_
      rintro e w1 ⟨N, rfl, -, -, hq⟩
      have HB := hide hq
      clear hq Q
      go_wp2_with fail
      go_ret2
      exact ⟨ret_num HR.out.1 HR.out.2, HB.out⟩
end Go.Proofs.YtpkhdmhfkmajcaaDoor
