/- Similar roads: what the program's loop makes. -/
import Derived.Test.YtpkhdmhfkmajcaaDoorSimF
import Derived.Test.YtpkhdmhfkmajcaaDoorSimB
import Derived.Outline
namespace Go.Proofs.YtpkhdmhfkmajcaaDoor
open Go.RowKit
set_option linter.unusedVariables false

theorem infoStrS : (Tryd.prog.info? 9).map (fun i => (i.zero, i.size, i.bytes)) = some (some (.string ByteArray.empty), 1, 16) := by kernel_rfl
/-- A list of texts in a row of the call's own. -/
def OwnS (w : World) (B : Nat) (L : List ByteArray) (v : Value) : Prop := w.ownsRow B 9 1 v L.length (strL L)
def RoadsPost (L : List ByteArray) (w : World) (e : Ending) (w' : World) : Prop := (∃ v, e = .returned v ∧ OwnS w' w.heap.size L v) ∧ Below w.heap.size w w'
theorem simT_eq (x s : ByteArray) : simT x s = simN x s := by rw [simT, simI_eq]; rfl
theorem road_size {x0 : ByteArray} {x1 x2 x3 x4 : Int} (h : strP (x0, x1, x2, x3, x4) = true) : x0.size ≤ 10 := by
  simp only [strP, strB, roadB, Bool.and_eq_true, inB_iff] at h
  omega

set_option maxRecDepth 100000 in
set_option maxHeartbeats 8000000 in
theorem similarRoads_any (A : Option Addr) (n c : Nat) (l : List (ByteArray × Int × Int × Int × Int)) (s : ByteArray) (w : World) (hn : n = l.length) (hl : strsB l = true) (hr : Rd w A (l.flatMap scells)) (hz : s.size ≤ 10) :
    Calls Tryd.prog 21 #[.slice A n c, .string s] w (RoadsPost (roadsK l s l.length) w) := by
  obtain ⟨i0, hi0, hz0, hz1, hz2⟩ := info_parts infoStrS
  have Hi := hide hi0
  have Hz := hide (And.intro hz0 (And.intro hz1 hz2))
  have Hn := hide hn
  have Hr := hide hr
  have HL := hide hl
  have hn30 : n ≤ 30 := by have := strsB_len hl; omega
  clear hi0 hz0 hz1 hz2 hn hr hl
  go_enter Tryd.func21, Tryd.ntmps21
  go_wp2_with fail
  go_loopw [5, 10] (fun v t wr => ∃ k : Nat, k ≤ n ∧ t = .int .i64 k ∧ Hid (OwnS wr w.heap.size (roadsK l s k) v) ∧ Hid (Below w.heap.size w wr)) (fun _ t _ => n - (intOf t).toNat)
  case atStart => exact ⟨0, by omega, rfl, hide (World.ownsRow_nil _ _ _ _), hide (Below.refl _ _)⟩
  case round =>
    obtain ⟨k, hk, rfl, HO, HB⟩ := hrel
    by_cases hlt : k < n
    · obtain ⟨⟨x0, x1, x2, x3, x4⟩, hx⟩ : ∃ x, l[k]? = some x := ⟨_, List.getElem?_eq_getElem (by rw [← Hn.out]; exact hlt)⟩
      obtain ⟨b, off, rfl, hbs, c0, c1, c2, c3, c4⟩ := (Hr.out.below HB.out).get5 (fun _ => rfl) hx rfl
      have HX := hide hx
      have hxz := road_size (strsB_elem HL.out (List.mem_of_getElem? hx))
      have QS := hide (fun W => areSimilar_any x0 s W (by omega) (by omega))
      dsimp only at c0 c1 c2 c3 c4
      clear hx
      obtain ⟨A', cap, rfl, hrd, -⟩ := own_open HO.out
      have HRD := hide hrd
      clear hrd
      have hll := roadsK_length l s k
      have HBX := hide (Row.new wr #[.string x0, .int .i64 x1, .int .i64 x2, .int .i64 x3, .int .i64 x4] 39)
      have HB0 := hide (below_alloc HB.out (.cells #[.string x0, .int .i64 x1, .int .i64 x2, .int .i64 x3, .int .i64 x4] 39))
      have HO0 := hide (World.ownsRow.alloc HO.out (.cells #[.string x0, .int .i64 x1, .int .i64 x2, .int .i64 x3, .int .i64 x4] 39))
      cases hs : simN x0 s with
      | false =>
        have HD := hide (show roadsK l s (k + 1) = roadsK l s k from roadsK_no HX.out (by dsimp only; rw [hs]; rfl))
        have Q := hide (fun W => by have := QS.out W; rw [simT_eq, hs] at this; exact this)
        clear hs QS
        go_wp2_with fail
        refine (Q.out _).mono ?_
        rintro e w1 ⟨rfl, hq⟩
        have HB1 := hide (below_step HB0.out hq)
        have HO1 := hide (own_below HO0.out hq)
        have r0 := (HBX.out.below hq).2.1 0 _ rfl
        have rz := (HBX.out.below hq).1
        clear hq
        go_wp2
        go_roundw
        case rel => exact ⟨k + 1, by omega, by go_num, hide (by rw [HD.out]; exact HO1.out), HB1⟩
        case measure => simp [intOf]; omega
      | true =>
        have HH := hide (has_new HL.out HX.out (s := s) hs)
        have HS := hide hs
        have Q := hide (fun W => by have := QS.out W; rw [simT_eq, hs] at this; exact this)
        clear hs QS
        go_wp2_with fail
        refine (Q.out _).mono ?_
        rintro e w1 ⟨rfl, hq⟩
        have HB1 := hide (below_step HB0.out hq)
        have HO1 := hide (own_below HO0.out hq)
        have r0 := (HBX.out.below hq).2.1 0 _ rfl
        have rz := (HBX.out.below hq).1
        have HRB := hide (below_step (below_alloc (Below.refl _ wr) (.cells #[.string x0, .int .i64 x1, .int .i64 x2, .int .i64 x3, .int .i64 x4] 39)) hq)
        have QH := hide (hasStr_any A' (roadsK l s k).length cap (roadsK l s k) x0 w1 rfl (by omega) (HRD.out.below HRB.out))
        clear hq
        cases hnw : newAt l k with
        | false =>
          have HD := hide (show roadsK l s (k + 1) = roadsK l s k from roadsK_no HX.out (by rw [hnw, Bool.and_false]))
          have QH2 := hide (by have := QH.out; rw [HH.out, hnw] at this; exact this)
          clear hnw
          go_wp2_with (go_at_call 42; ((with_reducible refine (QH2.out).mono ?_); rintro e w' ⟨rfl, rfl⟩))
          go_roundw
          case rel => exact ⟨k + 1, by omega, by go_num, hide (by rw [HD.out]; exact HO1.out), HB1⟩
          case measure => simp [intOf]; omega
        | true =>
          have HD := hide (show roadsK l s (k + 1) = roadsK l s k ++ [x0] from roadsK_yes HX.out (by dsimp only; rw [HS.out, hnw]; rfl))
          have QH2 := hide (by have := QH.out; rw [HH.out, hnw] at this; exact this)
          clear hnw
          go_wp2_with fail
          refine QH2.out.mono ?_
          rintro e w' ⟨rfl, rfl⟩
          have HOA := hide (World.ownsRow.alloc HO1.out (.cells #[.string x0] 9))
          have HNC := hide (show ∀ (j : Nat) (u : Value), [Value.string x0][j]? = some u → (w1.alloc (.cells #[.string x0] 9)).cell? ((⟨w1.heap.size, 0, none⟩ : Addr).add j) = some u from fun j u hu => by rw [Addr.add_lit, Nat.zero_add]; exact (Row.new _ _ _).2.1 j u hu)
          have HWZ : Hid (w.heap.size ≤ (w1.alloc (.cells #[.string x0] 9)).heap.size) := hide (by have := HB1.out.size; simp; omega)
          have HBL := hide (fun q hq => (HO1.out.lt q hq).1)
          go_wp2_with (at_builtin; refine wpList_append_own _ rfl (.tmp 25) (.tmp 28) 26 rfl w.heap.size 9 i0 (.string ByteArray.empty) 1 16 Tryd.underlying26 Hi.out Hz.out.1 Hz.out.2.1 Hz.out.2.2 rfl (by decide) _ _ _ rfl HOA.out ⟨w1.heap.size, 0, none⟩ 1 1 [.string x0] rfl rfl HNC.out ?c1 ?c2 ?c3 HWZ.out ?_)
          case c1 => simp [Value.oneCell']
          case c2 => unfold maxLen; omega
          case c3 => omega
          intro v' w5 hown hgrow _
          have HB5 := hide ((below_alloc HB1.out _).grown hgrow (by have := HB1.out.size; simp; omega) HBL.out)
          have HO5 := hide hown
          clear hown hgrow HOA HNC HWZ HBL
          go_wp2
          go_roundw
          case rel => exact ⟨k + 1, by omega, by go_num, hide (by rw [HD.out]; unfold OwnS; rw [List.length_append, strL_append]; exact HO5.out), HB5⟩
          case measure => simp [intOf]; omega
    · obtain rfl : k = n := by omega
      go_wp2
      go_ret
      exact ⟨⟨_, rfl, by rw [← show k = l.length from Hn.out]; exact HO.out⟩, HB.out⟩
end Go.Proofs.YtpkhdmhfkmajcaaDoor
