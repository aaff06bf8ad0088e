/- Gaps between houses: the program's way and the reference's. -/
import Derived.Test.YtpkhdmhfkmajcaaGapA
import Derived.Test.YtpkhdmhfkmajcaaRhB
namespace Go.Proofs.Ytpkhdmhfkmajcaa
open Go.RowKit
set_option linter.unusedVariables false

/-- What the place ahead of number i gives. -/
def gapAt (l : List StrT) (s : ByteArray) : Nat → List (Int × Int)
  | 0 => []
  | j + 1 => match l[j]?, l[j + 1]? with
    | some x, some y => if (x.1.toList == s.toList) && (y.1.toList == s.toList) && decide (x.2.2.1 + 1 < y.2.1) then [(x.2.2.1 + 1, y.2.1 - 1)] else []
    | _, _ => []
def gapsK (l : List StrT) (s : ByteArray) (k : Nat) : List (Int × Int) := (List.range k).flatMap (gapAt l s)
theorem gapsK_zero (l : List StrT) (s : ByteArray) : gapsK l s 0 = [] := rfl
theorem gapsK_one (l : List StrT) (s : ByteArray) : gapsK l s 1 = [] := rfl
theorem gapsK_succ (l : List StrT) (s : ByteArray) (k : Nat) : gapsK l s (k + 1) = gapsK l s k ++ gapAt l s k := by simp [gapsK, List.range_succ]
theorem gapAt_len (l : List StrT) (s : ByteArray) (k : Nat) : (gapAt l s k).length ≤ 1 := by
  unfold gapAt
  split
  · simp
  · split
    · split <;> simp
    · simp
theorem gapsK_len (l : List StrT) (s : ByteArray) : ∀ k, (gapsK l s k).length ≤ k
  | 0 => by simp [gapsK_zero]
  | k + 1 => by
    rw [gapsK_succ, List.length_append]
    have := gapsK_len l s k
    have := gapAt_len l s k
    omega
theorem gapAt_yes {l : List StrT} {s : ByteArray} {j : Nat} {x y : StrT} (hx : l[j]? = some x) (hy : l[j + 1]? = some y) (h : ((x.1.toList == s.toList) && (y.1.toList == s.toList) && decide (x.2.2.1 + 1 < y.2.1)) = true) : gapAt l s (j + 1) = [(x.2.2.1 + 1, y.2.1 - 1)] := by
  simp only [gapAt, hx, hy, h, if_true]
theorem gapAt_no {l : List StrT} {s : ByteArray} {j : Nat} {x y : StrT} (hx : l[j]? = some x) (hy : l[j + 1]? = some y) (h : ((x.1.toList == s.toList) && (y.1.toList == s.toList) && decide (x.2.2.1 + 1 < y.2.1)) = false) : gapAt l s (j + 1) = [] := by
  simp only [gapAt, hx, hy, h]
  rfl
def gapsOk (l : List StrT) (s : ByteArray) : Bool := strsB l && roadB s
def gapsL (l : List StrT) (s : ByteArray) : List (Int × Int) := if gapsOk l s then gapsK l s l.length else []
def GapsPost (l : List StrT) (s : ByteArray) (w : World) (e : Ending) (w' : World) : Prop :=
  (∃ v, e = .returned (.tuple #[v, .bool (gapsOk l s)]) ∧ Nest w' w.heap.size v (gapsL l s)) ∧ Below w.heap.size w w'
theorem GapsPost.no {l : List StrT} {s : ByteArray} {w w' : World} (h : gapsOk l s = false) (hb : Below w.heap.size w w') : GapsPost l s w (.returned (.tuple #[.slice none 0 0, .bool false])) w' :=
  ⟨⟨_, by rw [h], by rw [gapsL, h]; exact Nest.nil _ _⟩, hb⟩
theorem GapsPost.yes {l : List StrT} {s : ByteArray} {w w' : World} {v : Value} (h : gapsOk l s = true) (hv : Nest w' w.heap.size v (gapsK l s l.length)) (hb : Below w.heap.size w w') : GapsPost l s w (.returned (.tuple #[v, .bool true])) w' :=
  ⟨⟨_, by rw [h], by rw [gapsL, h]; exact hv⟩, hb⟩
theorem infoIntS : (Try.prog.info? 49).map (fun i => (i.zero, i.size, i.bytes)) = some (some (.slice none 0 0), 1, 24) := by kernel_rfl

set_option maxRecDepth 100000 in
set_option maxHeartbeats 8000000 in
theorem implGapsOf_any (A : Option Addr) (n c : Nat) (l : List (ByteArray × Int × Int × Int × Int)) (s : ByteArray) (w : World) (hn : n = l.length) (hm : n ≤ 1048576) (hs : ∀ x ∈ l, x.1.size ≤ maxLen) (hr : Rd w A (l.flatMap scells)) (hz : s.size ≤ maxLen) :
    Calls Try.prog 13 #[.slice A n c, .string s] w (GapsPost l s w) := by
  have Q := hide (areStretches_any A n c l w hn hm hs hr)
  have Q1 := hide (fun w => isRoad_any s w hz)
  have Hn := hide hn
  have Hr := hide hr
  obtain ⟨i0, hi0, hz0, hz1, hz2⟩ := info_parts infoIntS
  have Hi := hide hi0
  have Hz := hide (And.intro hz0 (And.intro hz1 hz2))
  clear hs hr hn hz hi0 hz0 hz1 hz2
  cases h1 : strsB l with
  | false =>
    have HE := hide (show gapsOk l s = false by rw [gapsOk, h1]; rfl)
    rw [h1] at Q
    clear h1
    go_enter Try.func13, Try.ntmps13
    go_wp2_with fail
    refine Q.out.mono ?_
    rintro e w1 ⟨rfl, hq⟩
    go_wp2
    go_ret2
    exact GapsPost.no HE.out hq
  | true =>
    rw [h1] at Q
    cases h2 : roadB s with
    | false =>
      have HE := hide (show gapsOk l s = false by rw [gapsOk, h1, h2]; rfl)
      have q2 := Q1.out
      rw [h2] at q2
      clear h1 h2
      go_enter Try.func13, Try.ntmps13
      go_wp2_with fail
      refine Q.out.mono ?_
      rintro e w1 ⟨rfl, hq⟩
      go_wp2_with (go_at_call 37; ((with_reducible refine (q2 _).mono ?_); rintro e w' ⟨rfl, rfl⟩))
      go_ret2
      exact GapsPost.no HE.out hq
    | true =>
      have HE := hide (show gapsOk l s = true by rw [gapsOk, h1, h2]; rfl)
      have q2 := Q1.out
      rw [h2] at q2
      have hn30 : n ≤ 30 := by have := strsB_len h1; have := Hn.out; omega
      have HLS := hide h1
      clear h1 h2
      go_enter Try.func13, Try.ntmps13
      go_wp2_with fail
      refine Q.out.mono ?_
      rintro e w1 ⟨rfl, hq⟩
      have HB1 := hide hq
      clear hq
      go_wp2_with (go_at_call 37; ((with_reducible refine (q2 _).mono ?_); rintro e w' ⟨rfl, rfl⟩))
      go_loopw [6, 7] (fun s6 t wr => ∃ (q : Nat) (v : Value), v = s6 ∧ (q + 1 ≤ n ∨ q = 0) ∧ t = .int .i64 ((q : Int) + 1) ∧ Hid (Nest wr w.heap.size v (gapsK l s (q + 1))) ∧ Hid (Below w.heap.size w wr)) (fun _ t _ => 40 - (intOf t).toNat)
      case atStart => exact ⟨0, _, rfl, .inr rfl, rfl, hide (Nest.nil _ _), HB1⟩
      case round =>
        obtain ⟨q, v, rfl, hq, rfl, HN, HB⟩ := hrel
        by_cases hlt : q + 1 < n
        · obtain ⟨⟨x0, x1, x2, x3, x4⟩, hx⟩ : ∃ x, l[q]? = some x := ⟨_, List.getElem?_eq_getElem (by rw [← Hn.out]; omega)⟩
          obtain ⟨⟨y0, y1, y2, y3, y4⟩, hy⟩ : ∃ x, l[q + 1]? = some x := ⟨_, List.getElem?_eq_getElem (by rw [← Hn.out]; omega)⟩
          have hxb := (elem_bd HLS.out hx)
          have hyb := (elem_bd HLS.out hy)
          dsimp only at hxb hyb
          obtain ⟨b, off, rfl, hbs, c0, c1, c2, c3, c4⟩ := (Hr.out.below HB.out).get5 (fun _ => rfl) hx rfl
          obtain ⟨b', off', hA, -, d0, d1, d2, d3, d4⟩ := (Hr.out.below HB.out).get5 (fun _ => rfl) hy rfl
          simp only [Option.some.injEq, Addr.mk.injEq, and_true] at hA
          obtain ⟨rfl, rfl⟩ := hA
          dsimp only at c0 c1 c2 c3 c4 d0 d1 d2 d3 d4
          have HX := hide hx
          have HY := hide hy
          obtain ⟨bw, offw, hAw, hbw, -, -, cw2, -, -⟩ := (Hr.out).get5 (fun _ => rfl) hx rfl
          obtain ⟨bw', offw', hAw', -, -, dw1, -, -, -⟩ := (Hr.out).get5 (fun _ => rfl) hy rfl
          simp only [Option.some.injEq, Addr.mk.injEq, and_true] at hAw hAw'
          obtain ⟨rfl, rfl⟩ := hAw
          obtain ⟨rfl, rfl⟩ := hAw'
          dsimp only at cw2 dw1
          have HW2 := hide cw2
          have HW1 := hide dw1
          have HWB := hide hbw
          clear cw2 dw1 hbw
          have hq1 : ((q : Int) + 1).toNat = q + 1 := by omega
          have hq0 : (0 : Int) ≤ (q : Int) + 1 := by omega
          have hq2 : (q : Int) + 1 - 1 = (q : Int) := by omega
          clear hx hy
          cases g1 : (x0.toList == s.toList) with
          | false =>
            have HNO := hide (gapAt_no HX.out HY.out (by dsimp only; rw [g1, Bool.false_and, Bool.false_and]))
            go_wp2_with fail
            refine wp_region_later (by kernel_rfl) (by kernel_rfl) ?_
            repeat (go_big_quiet_step (fail))
            refine wpQuiet_nil ?_
            refine later_intro fun w3 hb3 => ?_
            have HB3 := hide (below_step HB.out hb3)
            have HN3 := hide (HN.out.below hb3)
            clear hb3 c0 c1 c2 c3 c4 d0 d1 d2 d3 d4 hbs
            go_wp2
            go_roundw
            case rel => exact ⟨q + 1, _, rfl, .inl (by omega), by go_num, hide (by rw [gapsK_succ l s (q + 1), HNO.out, List.append_nil]; exact HN3.out), HB3⟩
            case measure => simp [intOf]; omega
          | true =>
            cases g2 : (y0.toList == s.toList) with
            | false =>
              have HNO := hide (gapAt_no HX.out HY.out (by dsimp only; rw [g1, g2, Bool.and_false, Bool.false_and]))
              go_wp2_with fail
              refine wp_region_later (by kernel_rfl) (by kernel_rfl) ?_
              repeat (go_big_quiet_step (fail))
              refine wpQuiet_nil ?_
              refine later_intro fun w3 hb3 => ?_
              have HB3 := hide (below_step HB.out hb3)
              have HN3 := hide (HN.out.below hb3)
              clear hb3 c0 c1 c2 c3 c4 d0 d1 d2 d3 d4 hbs
              go_wp2
              go_roundw
              case rel => exact ⟨q + 1, _, rfl, .inl (by omega), by go_num, hide (by rw [gapsK_succ l s (q + 1), HNO.out, List.append_nil]; exact HN3.out), HB3⟩
              case measure => simp [intOf]; omega
            | true =>
              by_cases g3 : x2 + 1 < y1
              · skip
                have HYE := hide (gapAt_yes HX.out HY.out (by dsimp only; rw [g1, g2, decide_eq_true g3]; rfl))
                go_wp2_with fail
                refine wp_region_later (by kernel_rfl) (by kernel_rfl) ?_
                repeat (go_big_quiet_step (fail))
                refine wpQuiet_nil ?_
                refine later_intro fun w3 hb3 => ?_
                have HB3 := hide (below_step HB.out hb3)
                have HN3 := hide (HN.out.below hb3)
                clear hb3 c0 c1 c2 c3 c4 d0 d1 d2 d3 d4 g1 g2 hbs
                have hgl := gapsK_len l s (q + 1)
                have HGL := hide hgl
                clear hgl
                go_wp2_with fail
                have c2 := HW2.out
                have d1 := HW1.out
                have hbs := HWB.out
                refine wpAnyS_start (fun w' => ∃ n : Later w, w' = n.w) (n := 18) (by kernel_rfl) rfl rfl ?_
                refine wpAnyS_take_all [0, 1, 2, 3, 4, 5, 6, 7, 8, 9, 10, 11, 12, 13] 4 rfl (by kernel_rfl) (by intro c a d v w h; cases d <;> exact h) (by kernel_rfl) (by simp; rfl) rfl (later_of HB3.out.drew) ?_
                repeat (go_big_quiet_step (fail))
                refine wpQuiet_nil ?_
                clear c2 d1 hbs
                have HC0 : Hid (Below w.heap.size w w3.drew) := hide HB3.out.drew
                have HL : Hid (Below w3.heap.size w3 w3.drew) := hide (Below.refl _ _).drew
                have HV : Hid (w3.heap.size = w3.drew.heap.size) := hide rfl
                generalize w3.drew = V0 at *
                refine wpAnyS_only 14 (by kernel_rfl) (by simp; rfl) rfl rfl (fun K hK => ?_)
                go_wp2_with fail
                have HL1 := hide (below_alloc HL.out (.cells #[.int .i64 (x2 + 1), .int .i64 (y1 - 1)] 3))
                have HG1 := hide (heap_new V0 #[.int .i64 (x2 + 1), .int .i64 (y1 - 1)] 3)
                refine ⟨later_of (below_alloc HC0.out _), ?_⟩
                replace HC0 := hide (below_alloc HC0.out (.cells #[.int .i64 (x2 + 1), .int .i64 (y1 - 1)] 3))
                have HZ1 : Hid (V0.heap.size < (V0.alloc (.cells #[.int .i64 (x2 + 1), .int .i64 (y1 - 1)] 3)).heap.size) := hide (by simp)
                generalize V0.alloc (.cells #[.int .i64 (x2 + 1), .int .i64 (y1 - 1)] 3) = V1 at *
                generalize V0.heap.size = G1 at *
                refine wpAnyS_only 15 (by kernel_rfl) (by simp; rfl) rfl rfl (fun K hK => ?_)
                go_wp2_with fail
                have HL2 := hide (below_alloc HL1.out (.cells #[.slice (some ⟨G1, 0, none⟩) 2 2] 49))
                have HG2 := hide (heap_grown HG1.out (grown_of_below ((Below.refl _ _).alloc (Nat.le_refl _) (.cells #[.slice (some ⟨G1, 0, none⟩) 2 2] 49)) none) (by simp))
                have HA2 := hide (Row.new V1 #[.slice (some ⟨G1, 0, none⟩) 2 2] 49)
                have HZ2 : Hid (G1 < (V1.alloc (.cells #[.slice (some ⟨G1, 0, none⟩) 2 2] 49)).heap.size) := hide (by have := HZ1.out; simp; omega)
                refine ⟨later_of (below_alloc HC0.out _), ?_⟩
                replace HC0 := hide (below_alloc HC0.out (.cells #[.slice (some ⟨G1, 0, none⟩) 2 2] 49))
                generalize V1.alloc (.cells #[.slice (some ⟨G1, 0, none⟩) 2 2] 49) = V2 at *
                generalize V1.heap.size = G2 at *
                refine wpAnyS_only 16 (by kernel_rfl) (by simp; rfl) rfl rfl (fun K hK => ?_)
                obtain ⟨bs, ⟨e1, e2, e3', e4, e5'⟩, hbl, hvl⟩ := HN3.out.lt
                have e3 := own_low e3' HL2.out hvl
                have e5 : ∀ (i : Nat) (b : Nat) (p : Int × Int), bs[i]? = some b → (gapsK l s (q + 1))[i]? = some p → V2.heap[b]? = some (.cells #[.int .i64 p.1, .int .i64 p.2] 3 (0, 0)) := fun i b p hi hp => by rw [HL2.out.block b (hbl b (List.mem_of_getElem? hi))]; exact e5' i b p hi hp
                refine wp_append_lies V2 (.tmp 54) (.tmp 69) 37 rfl w.heap.size 49 i0 _ 1 24 Try.underlying37 Hi.out Hz.out.1 Hz.out.2.1 Hz.out.2.2 rfl (by decide) v (gapsK l s (q + 1)).length (bs.map hdr) rfl e3 ⟨G2, 0, none⟩ 1 1 [hdr G1] rfl rfl (fun j u hu => by rw [Addr.add_lit, Nat.zero_add]; exact HA2.out.2.1 j u hu) (fun u hu => by simp at hu; subst hu; rfl) (by omega) (by unfold maxLen; have := HGL.out; omega) (by have := HGL.out; omega) (Nat.le_trans HB3.out.size HL2.out.size) _ rfl (fun g' cap' w4 hown hgr hor hlt4 => ?_)
                have HNM := hide (Nest.more e1 e2 e4 e5 (fun b' hb' => by have := hbl b' hb'; have := HV.out; omega) HG2.out (by have := HB3.out.size; have := HV.out; omega) (fun e => by have := hvl _ e; have := HV.out; omega) hown hgr (hor.imp (fun h => h.symm) (fun h => by omega)))
                have HC4 := hide ((below_step HB3.out HL2.out).grown hgr (Nat.le_trans HB3.out.size HL2.out.size) (fun j hj => (e3'.lt j hj).1))
                clear hown hgr hor hlt4 e1 e2 e3 e4 e5 e3' e5' hbl hvl HL HL1 HL2
                refine hK _ _ ⟨later_of HC4.out, ?_⟩
                simp only [Act.put, List.setIfInBounds_toArray, List.set_cons_succ, List.set_cons_zero]
                refine wpAnyS_only 17 (by kernel_rfl) (by simp; rfl) rfl rfl (fun K hK => ?_)
                go_wp2_with fail
                refine ⟨later_of HC4.out, ?_⟩
                refine wpAnyH_done (by kernel_rfl) ?_ _
                go_wp2
                go_roundw
                case rel => exact ⟨q + 1, _, rfl, .inl (by omega), by go_num, hide (by rw [gapsK_succ l s (q + 1), HYE.out]; exact HNM.out), HC4⟩
                case measure => simp [intOf]; omega
              · have g4 : ¬ (x2 + 1 < y1) := g3
                have HNO := hide (gapAt_no HX.out HY.out (by dsimp only; rw [g1, g2, decide_eq_false g3, Bool.and_false]))
                go_wp2_with fail
                refine wp_region_later (by kernel_rfl) (by kernel_rfl) ?_
                repeat (go_big_quiet_step (fail))
                refine wpQuiet_nil ?_
                refine later_intro fun w3 hb3 => ?_
                have HB3 := hide (below_step HB.out hb3)
                have HN3 := hide (HN.out.below hb3)
                clear hb3 c0 c1 c2 c3 c4 d0 d1 d2 d3 d4 hbs
                go_wp2
                go_roundw
                case rel => exact ⟨q + 1, _, rfl, .inl (by omega), by go_num, hide (by rw [gapsK_succ l s (q + 1), HNO.out, List.append_nil]; exact HN3.out), HB3⟩
                case measure => simp [intOf]; omega
        · have HQE := hide (show gapsK l s (q + 1) = gapsK l s l.length from by
            rcases (show q + 1 = n ∨ (q = 0 ∧ n = 0) by omega) with h | ⟨h0, h⟩
            · rw [h, Hn.out]
            · rw [h0, ← Hn.out, h]; rfl)
          go_wp2
          go_ret2
          exact GapsPost.yes HE.out (by rw [← HQE.out]; exact HN.out) HB.out
end Go.Proofs.Ytpkhdmhfkmajcaa
