/- Similar roads: what the reference's loop makes. -/
import Derived.Test.YtfahiammopgflaaSimG
import Derived.Test.YtfahiammopgflaaSimD
namespace Go.Proofs.Ytfahiammopgflaa
open Go.RowKit
set_option linter.unusedVariables false

set_option maxRecDepth 100000 in
set_option maxHeartbeats 8000000 in
theorem adRoads_any (A : Option Addr) (n c : Nat) (l : List (ByteArray × Int × Int × Int × Int)) (s : ByteArray) (w : World) (hn : n = l.length) (hl : strsB l = true) (hr : Rd w A (l.flatMap scells)) (hz : s.size ≤ 10) :
    Calls Try.prog 27 #[.slice A n c, .string s] w (RoadsPost (roadsK l s l.length) w) := by
  obtain ⟨i0, hi0, hz0, hz1, hz2⟩ := info_parts infoStrS
  have Hi := hide hi0
  have Hz := hide (And.intro hz0 (And.intro hz1 hz2))
  have Hn := hide hn
  have Hr := hide hr
  have HL := hide hl
  have hn30 : n ≤ 30 := by have := strsB_len hl; omega
  clear hi0 hz0 hz1 hz2 hn hr hl
  go_enter Try.func27, Try.ntmps27
  go_wp2_with fail
  go_loopw [5, 10] (fun v t wr => ∃ k : Nat, k ≤ n ∧ t = .int .i64 k ∧ Hid (OwnS wr w.heap.size (roadsK l s k) v) ∧ Hid (Below w.heap.size w wr)) (fun _ t _ => n - (intOf t).toNat)
  case atStart => exact ⟨0, by omega, rfl, hide (World.ownsRow_nil _ _ _ _), hide (Below.refl _ _)⟩
  case round =>
    obtain ⟨k, hk, rfl, HO, HB⟩ := hrel
    by_cases hlt : k < n
    · obtain ⟨⟨x0, x1, x2, x3, x4⟩, hx⟩ : ∃ x, l[k]? = some x := ⟨_, List.getElem?_eq_getElem (by rw [← Hn.out]; exact hlt)⟩
      obtain ⟨b, off, rfl, hbs, c0, c1, c2, c3, c4⟩ := (Hr.out.below HB.out).get5 (fun _ => rfl) hx rfl
      have HX := hide hx
      have hxz := road_size (strsB_elem HL.out (List.mem_of_getElem? hx))
      have QS := hide (fun W => adSimilar_any x0 s W (by omega) (by omega))
      dsimp only at c0 c1 c2 c3 c4
      clear hx
      obtain ⟨A', cap, rfl, hrd, -⟩ := own_open HO.out
      have HRD := hide hrd
      clear hrd
      have hll := roadsK_length l s k
      have HXA := hide (Row.new wr #[.string x0, .int .i64 x1, .int .i64 x2, .int .i64 x3, .int .i64 x4] 42)
      have HBA := hide (below_alloc HB.out (.cells #[.string x0, .int .i64 x1, .int .i64 x2, .int .i64 x3, .int .i64 x4] 42))
      have HOA := hide (World.ownsRow.alloc HO.out (.cells #[.string x0, .int .i64 x1, .int .i64 x2, .int .i64 x3, .int .i64 x4] 42))
      have r0 := HXA.out.2.1 0 _ rfl
      have rz := HXA.out.1
      have HAL := hide (below_alloc (Below.refl wr.heap.size wr) (.cells #[.string x0, .int .i64 x1, .int .i64 x2, .int .i64 x3, .int .i64 x4] 42))
      cases hs : simN x0 s with
      | false =>
        have HD := hide (show roadsK l s (k + 1) = roadsK l s k from roadsK_no HX.out (by dsimp only; rw [hs]; rfl))
        have Q := hide (fun W => by have := QS.out W; rw [show simS x0.data.toList s.data.toList = simN x0 s from rfl, hs] at this; exact this)
        clear hs QS
        go_wp2_with fail
        refine wp_region_later (by kernel_rfl) (by kernel_rfl) ?_
        repeat (go_big_quiet_step ((go_at_call 45; exact calls_later (Q.out _))))
        refine wpQuiet_nil ?_
        refine later_intro fun w1 hb1 => ?_
        have HB1 := hide (below_step HBA.out hb1)
        have HO1 := hide (own_below HOA.out hb1)
        have HX1 := hide (HXA.out.below hb1)
        clear r0 rz hb1
        go_wp2
        go_roundw
        case rel => exact ⟨k + 1, by omega, by go_num, hide (by rw [HD.out]; exact HO1.out), HB1⟩
        case measure => simp [intOf]; omega
      | true =>
        have HS := hide hs
        have Q := hide (fun W => by have := QS.out W; rw [show simS x0.data.toList s.data.toList = simN x0 s from rfl, hs] at this; exact this)
        clear hs QS
        by_cases hk0 : k = 0
        · have HD := hide (show roadsK l s (k + 1) = roadsK l s k ++ [x0] from roadsK_yes HX.out (by dsimp only; rw [HS.out, hk0]; rfl))
          have hk3 : ((k : Int) == 0) = true := by simpa using (show (k : Int) = 0 by omega)
          clear hk0
          go_wp2_with fail
          refine wp_region_later (by kernel_rfl) (by kernel_rfl) ?_
          repeat (go_big_quiet_step ((go_at_call 45; exact calls_later (Q.out _))))
          refine wpQuiet_nil ?_
          refine later_intro fun w1 hb1 => ?_
          have HB1 := hide (below_step HBA.out hb1)
          have HO1 := hide (own_below HOA.out hb1)
          have HX1 := hide (HXA.out.below hb1)
          clear r0 rz hb1
          have r0 := HX1.out.2.1 0 _ rfl
          have rz := HX1.out.1
          have HOA1 := hide (World.ownsRow.alloc HO1.out (.cells #[.string x0] 9))
          have HNC := hide (show ∀ (j : Nat) (u : Value), [Value.string x0][j]? = some u → (w1.alloc (.cells #[.string x0] 9)).cell? ((⟨w1.heap.size, 0, none⟩ : Addr).add j) = some u from fun j u hu => by rw [Addr.add_lit, Nat.zero_add]; exact (Row.new _ _ _).2.1 j u hu)
          have HWZ : Hid (w.heap.size ≤ (w1.alloc (.cells #[.string x0] 9)).heap.size) := hide (by have := HB1.out.size; simp; omega)
          have HBL := hide (fun q hq => (HO1.out.lt q hq).1)
          go_wp2_with (at_builtin; refine wpList_append_own _ rfl (.tmp 34) (.tmp 37) 24 rfl w.heap.size 9 i0 (.string ByteArray.empty) 1 16 Try.underlying24 Hi.out Hz.out.1 Hz.out.2.1 Hz.out.2.2 rfl (by decide) _ _ _ rfl HOA1.out ⟨w1.heap.size, 0, none⟩ 1 1 [.string x0] rfl rfl HNC.out ?c1 ?c2 ?c3 HWZ.out ?_)
          case c1 => simp [Value.oneCell']
          case c2 => unfold maxLen; omega
          case c3 => omega
          intro v' w5 hown hgrow _
          have HB5 := hide ((below_alloc HB1.out _).grown hgrow (by have := HB1.out.size; simp; omega) HBL.out)
          have HO5 := hide hown
          clear hown hgrow HOA1 HNC HWZ HBL
          go_wp2
          go_roundw
          case rel => exact ⟨k + 1, by omega, by go_num, hide (by rw [HD.out]; unfold OwnS; rw [List.length_append, strL_append]; exact HO5.out), HB5⟩
          case measure => simp [intOf]; omega
        · obtain ⟨j, rfl⟩ : ∃ j, k = j + 1 := ⟨k - 1, by omega⟩
          obtain ⟨⟨y0, y1, y2, y3, y4⟩, hy⟩ : ∃ x, l[j]? = some x := ⟨_, List.getElem?_eq_getElem (by have := Hn.out; omega)⟩
          obtain ⟨b9, off9, hA9, hb9, d0, -, -, -, -⟩ := (Hr.out.below (below_step HB.out HAL.out)).get5 (fun _ => rfl) hy rfl
          simp only [Option.some.injEq, Addr.mk.injEq, and_true] at hA9
          obtain ⟨rfl, rfl⟩ := hA9
          dsimp only at d0
          have e1 : IntKind.i64.wrap (((j + 1 : Nat) : Int) - 1) = (j : Int) := by rw [IntWalk.i64_in _ (by omega)]; omega
          have hk2 : ¬ ((j + 1 : Nat) : Int) = 0 := by omega
          have hk3 : (((j + 1 : Nat) : Int) == 0) = false := by simpa using hk2
          have HNW := hide (newAt_succ hy HX.out)
          clear hy
          dsimp only at HNW
          cases hE : (y0.toList == x0.toList) with
          | true =>
            have HD := hide (show roadsK l s (j + 1 + 1) = roadsK l s (j + 1) from roadsK_no HX.out (by dsimp only; rw [HNW.out, hE]; simp))
            generalize hkk : j + 1 = k at *
            go_wp2_with fail
            refine wp_region_later (by kernel_rfl) (by kernel_rfl) ?_
            repeat (go_big_quiet_step ((go_at_call 45; exact calls_later (Q.out _))))
            refine wpQuiet_nil ?_
            refine later_intro fun w1 hb1 => ?_
            have HB1 := hide (below_step HBA.out hb1)
            have HO1 := hide (own_below HOA.out hb1)
            have HX1 := hide (HXA.out.below hb1)
            clear r0 rz hb1
            go_wp2
            go_roundw
            case rel => exact ⟨k + 1, by omega, by go_num, hide (by rw [HD.out]; exact HO1.out), HB1⟩
            case measure => simp [intOf]; omega
          | false =>
            have HD := hide (show roadsK l s (j + 1 + 1) = roadsK l s (j + 1) ++ [x0] from roadsK_yes HX.out (by dsimp only; rw [HNW.out, HS.out, hE]; rfl))
            generalize hkk : j + 1 = k at *
            go_wp2_with fail
            refine wp_region_later (by kernel_rfl) (by kernel_rfl) ?_
            repeat (go_big_quiet_step ((go_at_call 45; exact calls_later (Q.out _))))
            refine wpQuiet_nil ?_
            refine later_intro fun w1 hb1 => ?_
            have HB1 := hide (below_step HBA.out hb1)
            have HO1 := hide (own_below HOA.out hb1)
            have HX1 := hide (HXA.out.below hb1)
            clear r0 rz hb1
            have r0 := HX1.out.2.1 0 _ rfl
            have rz := HX1.out.1
            have HOA1 := hide (World.ownsRow.alloc HO1.out (.cells #[.string x0] 9))
            have HNC := hide (show ∀ (j : Nat) (u : Value), [Value.string x0][j]? = some u → (w1.alloc (.cells #[.string x0] 9)).cell? ((⟨w1.heap.size, 0, none⟩ : Addr).add j) = some u from fun j u hu => by rw [Addr.add_lit, Nat.zero_add]; exact (Row.new _ _ _).2.1 j u hu)
            have HWZ : Hid (w.heap.size ≤ (w1.alloc (.cells #[.string x0] 9)).heap.size) := hide (by have := HB1.out.size; simp; omega)
            have HBL := hide (fun q hq => (HO1.out.lt q hq).1)
            go_wp2_with (at_builtin; refine wpList_append_own _ rfl (.tmp 34) (.tmp 37) 24 rfl w.heap.size 9 i0 (.string ByteArray.empty) 1 16 Try.underlying24 Hi.out Hz.out.1 Hz.out.2.1 Hz.out.2.2 rfl (by decide) _ _ _ rfl HOA1.out ⟨w1.heap.size, 0, none⟩ 1 1 [.string x0] rfl rfl HNC.out ?c1 ?c2 ?c3 HWZ.out ?_)
            case c1 => simp [Value.oneCell']
            case c2 => unfold maxLen; omega
            case c3 => omega
            intro v' w5 hown hgrow _
            have HB5 := hide ((below_alloc HB1.out _).grown hgrow (by have := HB1.out.size; simp; omega) HBL.out)
            have HO5 := hide hown
            clear hown hgrow HOA1 HNC HWZ HBL
            go_wp2
            go_roundw
            case rel => exact ⟨k + 1, by omega, by go_num, hide (by rw [HD.out]; unfold OwnS; rw [List.length_append, strL_append]; exact HO5.out), HB5⟩
            case measure => simp [intOf]; omega
    · obtain rfl : k = n := by omega
      go_wp2
      go_ret
      exact ⟨⟨_, rfl, by rw [← show k = l.length from Hn.out]; exact HO.out⟩, HB.out⟩
end Go.Proofs.Ytfahiammopgflaa
