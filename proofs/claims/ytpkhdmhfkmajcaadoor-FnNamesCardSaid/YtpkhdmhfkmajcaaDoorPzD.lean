/- Several texts in one. Similar roads: what the reference's loop makes. Likely addresses: the plain law; the program. SimilarRoads: what the program's and the reference's return. Likely addresses: the reference. -/
import Derived.Test.YtpkhdmhfkmajcaaDoorSimG
import Derived.Test.YtpkhdmhfkmajcaaDoorSimD
import Derived.Test.YtpkhdmhfkmajcaaDoorStrF
import Derived.Test.YtpkhdmhfkmajcaaDoorRowsX
namespace Go.Proofs.YtpkhdmhfkmajcaaDoor
open Go.RowKit
set_option linter.unusedVariables false

set_option maxRecDepth 100000 in
set_option maxHeartbeats 8000000 in
theorem adRoads_any (A : Option Addr) (n c : Nat) (l : List (ByteArray × Int × Int × Int × Int)) (s : ByteArray) (w : World) (hn : n = l.length) (hl : strsB l = true) (hr : Rd w A (l.flatMap scells)) (hz : s.size ≤ 10) :
    Calls Tryd.prog 24 #[.slice A n c, .string s] w (RoadsPost (roadsK l s l.length) w) := by
  obtain ⟨i0, hi0, hz0, hz1, hz2⟩ := info_parts infoStrS
  have Hi := hide hi0
  have Hz := hide (And.intro hz0 (And.intro hz1 hz2))
  have Hn := hide hn
  have Hr := hide hr
  have HL := hide hl
  have hn30 : n ≤ 30 := by have := strsB_len hl; omega
  clear hi0 hz0 hz1 hz2 hn hr hl
  go_enter Tryd.func24, Tryd.ntmps24
  go_wp2_with fail
  go_loopw [5, 10] (fun v t wr => ∃ k : Nat, k ≤ n ∧ t = .int .i64 k ∧ Hid (OwnS wr w.heap.size (roadsK l s k) v) ∧ Hid (Below w.heap.size w wr)) (fun _ t _ => n - (intOf t).toNat)
  case atStart => exact ⟨0, by omega, rfl, hide (World.ownsRow_nil _ _ _ _), hide (Below.refl _ _)⟩
  case round =>
    obtain ⟨k, hk, rfl, HO, HB⟩ := hrel
    by_cases hlt : k < n
    · obtain ⟨⟨x0, x1, x2, x3, x4⟩, hx⟩ : ∃ x, l[k]? = some x := ⟨_, List.getElem?_eq_getElem (by rw [← Hn.out]; exact hlt)⟩
      obtain ⟨b, off, rfl, hbs, c0, c1, c2, c3, c4⟩ := (Hr.out.below HB.out).get5 (fun _ => rfl) hx rfl
      have HX := hide hx
      have hxz := road_size (strsB_elem HL.out (List.mem_of_getElem? hx))
      have QS := hide (fun W => adSimilar_any x0 s W (by omega) (by omega))
      dsimp only at c0 c1 c2 c3 c4
      clear hx
      obtain ⟨A', cap, rfl, hrd, -⟩ := own_open HO.out
      have HRD := hide hrd
      clear hrd
      have hll := roadsK_length l s k
      have HXA := hide (Row.new wr #[.string x0, .int .i64 x1, .int .i64 x2, .int .i64 x3, .int .i64 x4] 39)
      have HBA := hide (below_alloc HB.out (.cells #[.string x0, .int .i64 x1, .int .i64 x2, .int .i64 x3, .int .i64 x4] 39))
      have HOA := hide (World.ownsRow.alloc HO.out (.cells #[.string x0, .int .i64 x1, .int .i64 x2, .int .i64 x3, .int .i64 x4] 39))
      have r0 := HXA.out.2.1 0 _ rfl
      have rz := HXA.out.1
      have HAL := hide (below_alloc (Below.refl wr.heap.size wr) (.cells #[.string x0, .int .i64 x1, .int .i64 x2, .int .i64 x3, .int .i64 x4] 39))
      cases hs : simN x0 s with
      | false =>
        have HD := hide (show roadsK l s (k + 1) = roadsK l s k from roadsK_no HX.out (by dsimp only; rw [hs]; rfl))
        have Q := hide (fun W => by have := QS.out W; rw [show simS x0.data.toList s.data.toList = simN x0 s from rfl, hs] at this; exact this)
        clear hs QS
        go_wp2_with fail
        refine wp_region_later (by kernel_rfl) (by kernel_rfl) ?_
        repeat (go_big_quiet_step ((go_at_call 45; exact calls_later (Q.out _))))
        refine wpQuiet_nil ?_
        refine later_intro fun w1 hb1 => ?_
        have HB1 := hide (below_step HBA.out hb1)
        have HO1 := hide (own_below HOA.out hb1)
        have HX1 := hide (HXA.out.below hb1)
        clear r0 rz hb1
        go_wp2
        go_roundw
        case rel => exact ⟨k + 1, by omega, by go_num, hide (by rw [HD.out]; exact HO1.out), HB1⟩
        case measure => simp [intOf]; omega
      | true =>
        have HS := hide hs
        have Q := hide (fun W => by have := QS.out W; rw [show simS x0.data.toList s.data.toList = simN x0 s from rfl, hs] at this; exact this)
        clear hs QS
        by_cases hk0 : k = 0
        · have HD := hide (show roadsK l s (k + 1) = roadsK l s k ++ [x0] from roadsK_yes HX.out (by dsimp only; rw [HS.out, hk0]; rfl))
          have hk3 : ((k : Int) == 0) = true := by simpa using (show (k : Int) = 0 by omega)
          clear hk0
          go_wp2_with fail
          refine wp_region_later (by kernel_rfl) (by kernel_rfl) ?_
          repeat (go_big_quiet_step ((go_at_call 45; exact calls_later (Q.out _))))
          refine wpQuiet_nil ?_
          refine later_intro fun w1 hb1 => ?_
          have HB1 := hide (below_step HBA.out hb1)
          have HO1 := hide (own_below HOA.out hb1)
          have HX1 := hide (HXA.out.below hb1)
          clear r0 rz hb1
          have r0 := HX1.out.2.1 0 _ rfl
          have rz := HX1.out.1
          have HOA1 := hide (World.ownsRow.alloc HO1.out (.cells #[.string x0] 9))
          have HNC := hide (show ∀ (j : Nat) (u : Value), [Value.string x0][j]? = some u → (w1.alloc (.cells #[.string x0] 9)).cell? ((⟨w1.heap.size, 0, none⟩ : Addr).add j) = some u from fun j u hu => by rw [Addr.add_lit, Nat.zero_add]; exact (Row.new _ _ _).2.1 j u hu)
          have HWZ : Hid (w.heap.size ≤ (w1.alloc (.cells #[.string x0] 9)).heap.size) := hide (by have := HB1.out.size; simp; omega)
          have HBL := hide (fun q hq => (HO1.out.lt q hq).1)
          go_wp2_with (at_builtin; refine wpList_append_own _ rfl (.tmp 34) (.tmp 37) 26 rfl w.heap.size 9 i0 (.string ByteArray.empty) 1 16 Tryd.underlying26 Hi.out Hz.out.1 Hz.out.2.1 Hz.out.2.2 rfl (by decide) _ _ _ rfl HOA1.out ⟨w1.heap.size, 0, none⟩ 1 1 [.string x0] rfl rfl HNC.out ?c1 ?c2 ?c3 HWZ.out ?_)
          case c1 => simp [Value.oneCell']
          case c2 => unfold maxLen; omega
          case c3 => omega
          intro v' w5 hown hgrow _
          have HB5 := hide ((below_alloc HB1.out _).grown hgrow (by have := HB1.out.size; simp; omega) HBL.out)
          have HO5 := hide hown
          clear hown hgrow HOA1 HNC HWZ HBL
          go_wp2
          go_roundw
          case rel => exact ⟨k + 1, by omega, by go_num, hide (by rw [HD.out]; unfold OwnS; rw [List.length_append, strL_append]; exact HO5.out), HB5⟩
          case measure => simp [intOf]; omega
        · obtain ⟨j, rfl⟩ : ∃ j, k = j + 1 := ⟨k - 1, by omega⟩
          obtain ⟨⟨y0, y1, y2, y3, y4⟩, hy⟩ : ∃ x, l[j]? = some x := ⟨_, List.getElem?_eq_getElem (by have := Hn.out; omega)⟩
          obtain ⟨b9, off9, hA9, hb9, d0, -, -, -, -⟩ := (Hr.out.below (below_step HB.out HAL.out)).get5 (fun _ => rfl) hy rfl
          simp only [Option.some.injEq, Addr.mk.injEq, and_true] at hA9
          obtain ⟨rfl, rfl⟩ := hA9
          dsimp only at d0
          have e1 : IntKind.i64.wrap (((j + 1 : Nat) : Int) - 1) = (j : Int) := by rw [IntWalk.i64_in _ (by omega)]; omega
          have hk2 : ¬ ((j + 1 : Nat) : Int) = 0 := by omega
          have hk3 : (((j + 1 : Nat) : Int) == 0) = false := by simpa using hk2
          have HNW := hide (newAt_succ hy HX.out)
          clear hy
          dsimp only at HNW
          cases hE : (y0.toList == x0.toList) with
          | true =>
            have HD := hide (show roadsK l s (j + 1 + 1) = roadsK l s (j + 1) from roadsK_no HX.out (by dsimp only; rw [HNW.out, hE]; simp))
            generalize hkk : j + 1 = k at *
            go_wp2_with fail
            refine wp_region_later (by kernel_rfl) (by kernel_rfl) ?_
            repeat (go_big_quiet_step ((go_at_call 45; exact calls_later (Q.out _))))
            refine wpQuiet_nil ?_
            refine later_intro fun w1 hb1 => ?_
            have HB1 := hide (below_step HBA.out hb1)
            have HO1 := hide (own_below HOA.out hb1)
            have HX1 := hide (HXA.out.below hb1)
            clear r0 rz hb1
            go_wp2
            go_roundw
            case rel => exact ⟨k + 1, by omega, by go_num, hide (by rw [HD.out]; exact HO1.out), HB1⟩
            case measure => simp [intOf]; omega
          | false =>
            have HD := hide (show roadsK l s (j + 1 + 1) = roadsK l s (j + 1) ++ [x0] from roadsK_yes HX.out (by dsimp only; rw [HNW.out, HS.out, hE]; rfl))
            generalize hkk : j + 1 = k at *
            go_wp2_with fail
            refine wp_region_later (by kernel_rfl) (by kernel_rfl) ?_
            repeat (go_big_quiet_step ((go_at_call 45; exact calls_later (Q.out _))))
            refine wpQuiet_nil ?_
            refine later_intro fun w1 hb1 => ?_
            have HB1 := hide (below_step HBA.out hb1)
            have HO1 := hide (own_below HOA.out hb1)
            have HX1 := hide (HXA.out.below hb1)
            clear r0 rz hb1
            have r0 := HX1.out.2.1 0 _ rfl
            have rz := HX1.out.1
            have HOA1 := hide (World.ownsRow.alloc HO1.out (.cells #[.string x0] 9))
            have HNC := hide (show ∀ (j : Nat) (u : Value), [Value.string x0][j]? = some u → (w1.alloc (.cells #[.string x0] 9)).cell? ((⟨w1.heap.size, 0, none⟩ : Addr).add j) = some u from fun j u hu => by rw [Addr.add_lit, Nat.zero_add]; exact (Row.new _ _ _).2.1 j u hu)
            have HWZ : Hid (w.heap.size ≤ (w1.alloc (.cells #[.string x0] 9)).heap.size) := hide (by have := HB1.out.size; simp; omega)
            have HBL := hide (fun q hq => (HO1.out.lt q hq).1)
            go_wp2_with (at_builtin; refine wpList_append_own _ rfl (.tmp 34) (.tmp 37) 26 rfl w.heap.size 9 i0 (.string ByteArray.empty) 1 16 Tryd.underlying26 Hi.out Hz.out.1 Hz.out.2.1 Hz.out.2.2 rfl (by decide) _ _ _ rfl HOA1.out ⟨w1.heap.size, 0, none⟩ 1 1 [.string x0] rfl rfl HNC.out ?c1 ?c2 ?c3 HWZ.out ?_)
            case c1 => simp [Value.oneCell']
            case c2 => unfold maxLen; omega
            case c3 => omega
            intro v' w5 hown hgrow _
            have HB5 := hide ((below_alloc HB1.out _).grown hgrow (by have := HB1.out.size; simp; omega) HBL.out)
            have HO5 := hide hown
            clear hown hgrow HOA1 HNC HWZ HBL
            go_wp2
            go_roundw
            case rel => exact ⟨k + 1, by omega, by go_num, hide (by rw [HD.out]; unfold OwnS; rw [List.length_append, strL_append]; exact HO5.out), HB5⟩
            case measure => simp [intOf]; omega
    · obtain rfl : k = n := by omega
      go_wp2
      go_ret
      exact ⟨⟨_, rfl, by rw [← show k = l.length from Hn.out]; exact HO.out⟩, HB.out⟩
end Go.Proofs.YtpkhdmhfkmajcaaDoor
namespace Go.Proofs.YtpkhdmhfkmajcaaDoor
open Go.RowKit
set_option linter.unusedVariables false

def nodeAt (l : List StrT) (q : Int) : Int := match l[q.toNat]? with
  | some x => x.2.2.2.1
  | none => 0
def lkF (l : List StrT) (h : Int) : List ByteArray → Option (ByteArray × Int)
  | [] => none
  | n :: L => if 0 ≤ findI (findP n h) l then some (n, nodeAt l (findI (findP n h) l)) else lkF l h L
theorem lkF_at {l : List StrT} {h : Int} : ∀ {L : List ByteArray} {k : Nat} {n : ByteArray}, L[k]? = some n → (∀ (i : Nat) (x : ByteArray), i < k → L[i]? = some x → findI (findP x h) l < 0) → 0 ≤ findI (findP n h) l → lkF l h L = some (n, nodeAt l (findI (findP n h) l))
  | [], k, n, hn, _, _ => by simp at hn
  | x :: L, 0, n, hn, _, hf => by
    simp at hn
    subst hn
    rw [lkF, if_pos hf]
  | x :: L, k + 1, n, hn, hb, hf => by
    have h0 := hb 0 x (by omega) rfl
    rw [lkF, if_neg (by omega)]
    exact lkF_at (by simpa using hn) (fun i y hi hy => hb (i + 1) y (by omega) (by simpa using hy)) hf
theorem lkF_none {l : List StrT} {h : Int} : ∀ {L : List ByteArray}, (∀ (i : Nat) (x : ByteArray), L[i]? = some x → findI (findP x h) l < 0) → lkF l h L = none
  | [], _ => rfl
  | x :: L, hb => by
    have h0 := hb 0 x rfl
    rw [lkF, if_neg (by omega)]
    exact lkF_none (fun i y hy => hb (i + 1) y (by simpa using hy))
def lkOk (l : List StrT) (s : ByteArray) (h : Int) : Bool := strsB l && roadB s && inB h 1 999
def lkO (l : List StrT) (s : ByteArray) (h : Int) : Option (ByteArray × Int) := if lkOk l s h then lkF l h (s :: roadsK l s l.length) else none
def lkS (l : List StrT) (s : ByteArray) (h : Int) : ByteArray := match lkO l s h with
  | some x => x.1
  | none => ByteArray.empty
def lkV (l : List StrT) (s : ByteArray) (h : Int) : Int := match lkO l s h with
  | some x => x.2
  | none => 0
def lkB (l : List StrT) (s : ByteArray) (h : Int) : Bool := (lkO l s h).isSome
def LkPost (l : List StrT) (s : ByteArray) (h : Int) (w : World) (e : Ending) (w' : World) : Prop := e = .returned (.tuple #[.string (lkS l s h), .int .i64 (lkV l s h), .bool (lkB l s h)]) ∧ Below w.heap.size w w'
theorem LkPost.no {l : List StrT} {s : ByteArray} {h : Int} {w w' : World} (ho : lkO l s h = none) (hb : Below w.heap.size w w') : LkPost l s h w (.returned (.tuple #[.string ByteArray.empty, .int .i64 0, .bool false])) w' := ⟨by rw [lkS, lkV, lkB, ho]; rfl, hb⟩
theorem LkPost.yes {l : List StrT} {s n : ByteArray} {h v : Int} {w w' : World} (ho : lkO l s h = some (n, v)) (hb : Below w.heap.size w w') : LkPost l s h w (.returned (.tuple #[.string n, .int .i64 v, .bool true])) w' := ⟨by rw [lkS, lkV, lkB, ho]; rfl, hb⟩
theorem lkO_no {l : List StrT} {s : ByteArray} {h : Int} (ho : lkOk l s h = false) : lkO l s h = none := by rw [lkO, ho]; rfl
theorem lkO_yes {l : List StrT} {s : ByteArray} {h : Int} (ho : lkOk l s h = true) : lkO l s h = lkF l h (s :: roadsK l s l.length) := by rw [lkO, ho]; rfl

set_option maxRecDepth 100000 in
set_option maxHeartbeats 8000000 in
theorem implLikelyAddress_any (A : Option Addr) (n c : Nat) (l : List (ByteArray × Int × Int × Int × Int)) (s : ByteArray) (h : Int) (w : World) (hn : n = l.length) (hm : n ≤ 1048576) (hs : ∀ x ∈ l, x.1.size ≤ maxLen) (hr : Rd w A (l.flatMap scells)) (hz : s.size ≤ maxLen) :
    Calls Tryd.prog 8 #[.slice A n c, .string s, .int .i64 h] w (LkPost l s h w) := by
  have Q := hide (areStretches_any A n c l w hn hm hs hr)
  have QR := hide (fun W => isRoad_any s W hz)
  have QI := hide (fun W => inside_any h 1 999 W)
  have Hn := hide hn
  have Hr := hide hr
  have HOK := hide (show lkOk l s h = (strsB l && roadB s && inB h 1 999) from rfl)
  clear hs hr hn hz
  cases h1 : strsB l with
  | false =>
    rw [h1] at Q
    have HE := hide (lkO_no (show lkOk l s h = false by rw [HOK.out, h1]; rfl))
    go_enter Tryd.func8, Tryd.ntmps8
    go_wp2_with fail
    refine Q.out.mono ?_
    rintro e w1 ⟨rfl, hq⟩
    go_wp2
    go_ret3
    exact LkPost.no HE.out hq
  | true =>
    rw [h1] at Q
    have HL := hide h1
    cases h2 : roadB s with
    | false =>
      have HE := hide (lkO_no (show lkOk l s h = false by rw [HOK.out, h1, h2]; rfl))
      have q2 := QR.out
      rw [h2] at q2
      clear h1 h2
      go_enter Tryd.func8, Tryd.ntmps8
      go_wp2_with fail
      refine Q.out.mono ?_
      rintro e w1 ⟨rfl, hq⟩
      go_wp2_with (go_at_call 20; ((with_reducible refine (q2 _).mono ?_); rintro e w' ⟨rfl, rfl⟩))
      go_ret3
      exact LkPost.no HE.out hq
    | true =>
      have q2 := QR.out
      rw [h2] at q2
      have q3 := QI.out
      cases h3 : inB h 1 999 with
      | false =>
        have HE := hide (lkO_no (show lkOk l s h = false by rw [HOK.out, h1, h2, h3]; rfl))
        rw [h3] at q3
        clear h1 h2 h3
        go_enter Tryd.func8, Tryd.ntmps8
        go_wp2_with fail
        refine Q.out.mono ?_
        rintro e w1 ⟨rfl, hq⟩
        go_wp2_with (first | (go_at_call 20; ((with_reducible refine (q2 _).mono ?_); rintro e w' ⟨rfl, rfl⟩)) | (go_at_call 28; ((with_reducible refine (q3 _).mono ?_); rintro e w' ⟨rfl, rfl⟩)))
        go_ret3
        exact LkPost.no HE.out hq
      | true =>
        have HE := hide (lkO_yes (show lkOk l s h = true by rw [HOK.out, h1, h2, h3]; rfl))
        have hz10 : s.size ≤ 10 := by
          simp only [roadB, Bool.and_eq_true, inB_iff] at h2
          omega
        have hn30 : n ≤ 30 := by have := strsB_len h1; have := Hn.out; omega
        rw [h3] at q3
        clear h1 h2 h3 HOK
        go_enter Tryd.func8, Tryd.ntmps8
        go_wp2_with fail
        refine Q.out.mono ?_
        rintro e w1 ⟨rfl, hq⟩
        have HB1 := hide hq
        clear hq
        go_wp2_with (first | (go_at_call 20; ((with_reducible refine (q2 _).mono ?_); rintro e w' ⟨rfl, rfl⟩)) | (go_at_call 28; ((with_reducible refine (q3 _).mono ?_); rintro e w' ⟨rfl, rfl⟩)))
        obtain ⟨i0, hi0, hz0, hz1, hz2⟩ := info_parts infoStrS
        have Hi := hide hi0
        have Hz := hide (And.intro hz0 (And.intro hz1 hz2))
        clear hi0 hz0 hz1 hz2
        have HLT : Hid ((w1.alloc (.cells #[.string s] 9)).ownsRow w.heap.size 9 1 (.slice (some ⟨w1.heap.size, 0, none⟩) 1 1) 1 [.string s]) := hide (World.ownsRow_lit (e := 9) (size := 1) w1 #[.string s] 1 HB1.out.size (by unfold maxLen; omega) rfl)
        have HBA := hide (below_alloc HB1.out (.cells #[.string s] 9))
        refine (similarRoads_any A n c l s _ Hn.out HL.out (Hr.out.below HBA.out) hz10).mono ?_
        rintro e w2 ⟨⟨v, rfl, ho⟩, hq⟩
        obtain ⟨A2, k2, rfl, hrd, hnc, -, hno, -⟩ := own_open ho
        have HB2 := hide (below_step HBA.out hq)
        have HL2 := hide (own_below HLT.out hq)
        have hno2 : A2 = none → (roadsK l s l.length).length = 0 ∧ k2 = 0 := fun e => ⟨(hno e).1, (hno e).2.1⟩
        have hadd : ∀ ad, A2 = some ad → ∀ j u, (strL (roadsK l s l.length))[j]? = some u → w2.cell? (ad.add j) = some u := fun ad hA j u hu => by
          rcases hrd with h | ⟨b, off, hA2, hc⟩
          · rw [h] at hu; simp at hu
          · rw [hA] at hA2
            injection hA2 with hA2
            subst hA2
            rw [Addr.add_lit]
            exact hc j u hu
        have HAD := hide hadd
        have HNO := hide hno2
        have hll := roadsK_length l s l.length
        have hl30 : (roadsK l s l.length).length ≤ 30 := by have := Hn.out; omega
        clear ho hq hrd hno hadd hno2 hll HLT
        have HONE := hide (show ∀ u ∈ strL (roadsK l s l.length), u.oneCell' = true from fun u hu => by obtain ⟨x, _, rfl⟩ := List.mem_map.1 hu; rfl)
        have HSL := hide (strL_length (roadsK l s l.length))
        have HLL := hide (show (s :: roadsK l s l.length).length = 1 + (roadsK l s l.length).length by simp; omega)
        generalize roadsK l s l.length = RL at *
        go_wp2_with (at_builtin; refine wpList_append_any rfl (.tmp 26) (.tmp 29) 26 rfl w.heap.size 9 i0 (.string ByteArray.empty) 1 16 Tryd.underlying26 Hi.out Hz.out.1 Hz.out.2.1 Hz.out.2.2 rfl (by decide) _ 1 [.string s] rfl HL2.out A2 RL.length k2 (strL RL) rfl (by rw [HSL.out]; omega) HNO.out HAD.out HONE.out ?c2 ?c3 ?c4 ?_)
        case c2 => unfold maxLen; omega
        case c3 => omega
        case c4 => exact HB2.out.size
        intro v' w3 hown hgrow
        rw [show Value.string s :: strL RL = strL (s :: RL) from rfl] at hown
        obtain ⟨A3, k3, rfl, hrd, -⟩ := own_open hown
        have HRN := hide hrd
        have HB3 := hide (HB2.out.grown hgrow HB2.out.size (fun q hq => by have := (HL2.out.lt q hq).1; omega))
        clear hown hgrow hrd HAD HNO HONE
        go_wp2_with fail
        have hNL : (s :: RL).length = 1 + RL.length := HLL.out
        have HNL := hide hNL
        clear hNL
        generalize hN : 1 + RL.length = N at *
        have hN30 : N ≤ 31 := by omega
        have eN : (1 + (RL.length : Int)) = (N : Int) := by omega
        rw [eN]
        clear eN hN
        go_loopw [32] (fun t wr => ∃ j : Nat, j ≤ N ∧ t = .int .i64 j ∧ Hid (∀ (i : Nat) (x : ByteArray), i < j → (s :: RL)[i]? = some x → findI (findP x h) l < 0) ∧ Hid (Below w3.heap.size w3 wr)) (fun t _ => N - (intOf t).toNat)
        case atStart => exact ⟨0, by omega, rfl, hide (fun i x hi => absurd hi (by omega)), hide (Below.refl _ _)⟩
        case round =>
          obtain ⟨j, hj, rfl, HA, HBi⟩ := hrel
          have HBA2 := hide (below_step HB3.out HBi.out)
          by_cases hlt : j < N
          · obtain ⟨nm, hnm⟩ : ∃ x, (s :: RL)[j]? = some x := ⟨_, List.getElem?_eq_getElem (by rw [HNL.out]; exact hlt)⟩
            obtain ⟨b, off, rfl, hbs, c0⟩ := (HRN.out.below HBi.out).get1 (strL_get hnm)
            have HNM := hide hnm
            clear hnm
            go_wp2_with fail
            refine (stretchOf_any A n c l nm h _ Hn.out hm (Hr.out.below HBA2.out)).mono ?_
            rintro e w4 ⟨rfl, hq⟩
            have HB4 := hide (below_step HBi.out hq)
            clear hq
            rcases findI_cases (findP nm h) l with hf | ⟨q, x, hf, hq, hp⟩
            · have HN1 := hide (show ∀ (i : Nat) (x : ByteArray), i < j + 1 → (s :: RL)[i]? = some x → findI (findP x h) l < 0 from fun i x hi hx => by
                by_cases hi2 : i < j
                · exact HA.out i x hi2 hx
                · rw [show i = j by omega, HNM.out] at hx
                  injection hx with hx
                  subst hx
                  omega)
              rw [hf]
              clear hf
              go_wp2
              go_roundw
              case rel => exact ⟨j + 1, by omega, by go_num, HN1, HB4⟩
              case measure => simp [intOf]; omega
            · obtain ⟨x0, x1, x2, x3, x4⟩ := x
              have HV := hide (show lkO l s h = some (nm, x3) by
                rw [HE.out, lkF_at HNM.out (fun i y hi hy => HA.out i y hi hy) (by rw [hf]; omega), hf, nodeAt, Int.toNat_natCast, hq])
              obtain ⟨b9, off9, rfl, hb9, -, -, -, d3, -⟩ := (Hr.out.below (below_step HB3.out HB4.out)).get5 (fun _ => rfl) hq rfl
              have hqn : q < n := by have := (List.getElem?_eq_some_iff.1 hq).1; have := Hn.out; omega
              rw [hf]
              dsimp only at d3
              clear hf hq hp
              go_wp2_with fail
              go_region
              all_goals go_wp2
              all_goals go_ret3
              exact LkPost.yes HV.out (below_step HB3.out HB4.out).drew
          · have HV := hide (show lkO l s h = none by rw [HE.out]; exact lkF_none (fun i x hx => HA.out i x (by have := (List.getElem?_eq_some_iff.1 hx).1; rw [HNL.out] at this; omega) hx))
            go_wp2
            go_ret3
            exact LkPost.no HV.out HBA2.out
end Go.Proofs.YtpkhdmhfkmajcaaDoor
namespace Go.Proofs.YtpkhdmhfkmajcaaDoor
open Go.RowKit
set_option linter.unusedVariables false

def srOk (l : List StrT) (s : ByteArray) : Bool := strsB l && roadB s
def srL (l : List StrT) (s : ByteArray) : List ByteArray := if srOk l s then roadsK l s l.length else []
theorem srL_length (l : List StrT) (s : ByteArray) : (srL l s).length ≤ 30 := by
  unfold srL
  split
  · next h =>
    rw [srOk, Bool.and_eq_true] at h
    have := strsB_len h.1
    have := roadsK_length l s l.length
    omega
  · simp
def SrPost (l : List StrT) (s : ByteArray) (w : World) (e : Ending) (w' : World) : Prop := (∃ v, e = .returned (.tuple #[v, .bool (srOk l s)]) ∧ OwnS w' w.heap.size (srL l s) v) ∧ Below w.heap.size w w'
theorem SrPost.no {l : List StrT} {s : ByteArray} {w w' : World} (h : srOk l s = false) (hb : Below w.heap.size w w') : SrPost l s w (.returned (.tuple #[.slice none 0 0, .bool false])) w' := by
  refine ⟨⟨_, by rw [h], ?_⟩, hb⟩
  rw [srL, h]
  exact World.ownsRow_nil _ _ _ _
theorem SrPost.yes {l : List StrT} {s : ByteArray} {v : Value} {w w' : World} (h : srOk l s = true) (ho : OwnS w' w.heap.size (roadsK l s l.length) v) (hb : Below w.heap.size w w') : SrPost l s w (.returned (.tuple #[v, .bool true])) w' := by
  refine ⟨⟨v, by rw [h], ?_⟩, hb⟩
  rw [srL, h]
  exact ho
set_option maxHeartbeats 4000000 in
theorem implSimilarRoads_any (A : Option Addr) (n c : Nat) (l : List (ByteArray × Int × Int × Int × Int)) (s : ByteArray) (w : World) (hn : n = l.length) (hm : n ≤ 1048576) (hs : ∀ x ∈ l, x.1.size ≤ maxLen) (hr : Rd w A (l.flatMap scells)) (hz : s.size ≤ maxLen) :
    Calls Tryd.prog 5 #[.slice A n c, .string s] w (SrPost l s w) := by
  have Q := hide (areStretches_any A n c l w hn hm hs hr)
  have QR := hide (fun W => isRoad_any s W hz)
  have Hn := hide hn
  have Hr := hide hr
  have HOK := hide (show srOk l s = (strsB l && roadB s) from rfl)
  clear hs hr hn hz
  cases h1 : strsB l with
  | false =>
    rw [h1] at Q
    have HE := hide (show srOk l s = false by rw [HOK.out, h1]; rfl)
    go_enter Tryd.func5, Tryd.ntmps5
    go_wp2_with fail
    refine Q.out.mono ?_
    rintro e w1 ⟨rfl, hq⟩
    go_wp2
    go_ret2
    exact SrPost.no HE.out hq
  | true =>
    rw [h1] at Q
    have HL := hide h1
    cases h2 : roadB s with
    | false =>
      have HE := hide (show srOk l s = false by rw [HOK.out, h1, h2]; rfl)
      have q2 := QR.out
      rw [h2] at q2
      clear h1 h2
      go_enter Tryd.func5, Tryd.ntmps5
      go_wp2_with fail
      refine Q.out.mono ?_
      rintro e w1 ⟨rfl, hq⟩
      go_wp2_with (go_at_call 20; ((with_reducible refine (q2 _).mono ?_); rintro e w' ⟨rfl, rfl⟩))
      go_ret2
      exact SrPost.no HE.out hq
    | true =>
      have q2 := QR.out
      rw [h2] at q2
      have HE := hide (show srOk l s = true by rw [HOK.out, h1, h2]; rfl)
      have hz10 : s.size ≤ 10 := by
        simp only [roadB, Bool.and_eq_true, inB_iff] at h2
        omega
      clear h1 h2 HOK
      go_enter Tryd.func5, Tryd.ntmps5
      go_wp2_with fail
      refine Q.out.mono ?_
      rintro e w1 ⟨rfl, hq⟩
      have HB1 := hide hq
      clear hq
      go_wp2_with (go_at_call 20; ((with_reducible refine (q2 _).mono ?_); rintro e w' ⟨rfl, rfl⟩))
      refine (similarRoads_any A n c l s _ Hn.out HL.out (Hr.out.below HB1.out) hz10).mono ?_
      rintro e w2 ⟨⟨v, rfl, ho⟩, hq⟩
      obtain ⟨A2, k2, rfl, -⟩ := own_open ho
      have HO := hide (own_le (B' := w.heap.size) ho HB1.out.size)
      have HB2 := hide (below_step HB1.out hq)
      clear ho hq
      go_wp2
      go_ret2
      exact SrPost.yes HE.out HO.out HB2.out
set_option maxHeartbeats 4000000 in
theorem specSimilarRoads_any (A : Option Addr) (n c : Nat) (l : List (ByteArray × Int × Int × Int × Int)) (s : ByteArray) (w : World) (hn : n = l.length) (hm : n ≤ 1048576) (hs : ∀ x ∈ l, x.1.size ≤ maxLen) (hr : Rd w A (l.flatMap scells)) (hz : s.size ≤ maxLen) :
    Calls Tryd.prog 6 #[.slice A n c, .string s] w (SrPost l s w) := by
  have Q := hide (adGood_any A n c l w hn hm hs hr)
  have QR := hide (fun W => adName_any s W hz)
  have Hn := hide hn
  have Hr := hide hr
  have HOK := hide (show srOk l s = (strsB l && roadB s) from rfl)
  clear hs hr hn hz
  cases h1 : strsB l with
  | false =>
    rw [h1] at Q
    have HE := hide (show srOk l s = false by rw [HOK.out, h1]; rfl)
    go_enter Tryd.func6, Tryd.ntmps6
    go_wp2_with fail
    refine Q.out.mono ?_
    rintro e w1 ⟨rfl, hq⟩
    go_wp2
    go_ret2
    exact SrPost.no HE.out hq
  | true =>
    rw [h1] at Q
    have HL := hide h1
    cases h2 : roadB s with
    | false =>
      have HE := hide (show srOk l s = false by rw [HOK.out, h1, h2]; rfl)
      have q2 := QR.out
      rw [h2] at q2
      clear h1 h2
      go_enter Tryd.func6, Tryd.ntmps6
      go_wp2_with fail
      refine Q.out.mono ?_
      rintro e w1 ⟨rfl, hq⟩
      go_wp2_with (go_at_call 23; ((with_reducible refine (q2 _).mono ?_); rintro e w' ⟨rfl, rfl⟩))
      go_ret2
      exact SrPost.no HE.out hq
    | true =>
      have q2 := QR.out
      rw [h2] at q2
      have HE := hide (show srOk l s = true by rw [HOK.out, h1, h2]; rfl)
      have hz10 : s.size ≤ 10 := by
        simp only [roadB, Bool.and_eq_true, inB_iff] at h2
        omega
      clear h1 h2 HOK
      go_enter Tryd.func6, Tryd.ntmps6
      go_wp2_with fail
      refine Q.out.mono ?_
      rintro e w1 ⟨rfl, hq⟩
      have HB1 := hide hq
      clear hq
      go_wp2_with (go_at_call 23; ((with_reducible refine (q2 _).mono ?_); rintro e w' ⟨rfl, rfl⟩))
      refine (adRoads_any A n c l s _ Hn.out HL.out (Hr.out.below HB1.out) hz10).mono ?_
      rintro e w2 ⟨⟨v, rfl, ho⟩, hq⟩
      obtain ⟨A2, k2, rfl, -⟩ := own_open ho
      have HO := hide (own_le (B' := w.heap.size) ho HB1.out.size)
      have HB2 := hide (below_step HB1.out hq)
      clear ho hq
      go_wp2
      go_ret2
      exact SrPost.yes HE.out HO.out HB2.out
end Go.Proofs.YtpkhdmhfkmajcaaDoor
namespace Go.Proofs.YtpkhdmhfkmajcaaDoor
open Go.RowKit
set_option linter.unusedVariables false

set_option maxRecDepth 100000 in
set_option maxHeartbeats 8000000 in
theorem specLikelyAddress_any (A : Option Addr) (n c : Nat) (l : List (ByteArray × Int × Int × Int × Int)) (s : ByteArray) (h : Int) (w : World) (hn : n = l.length) (hm : n ≤ 1048576) (hs : ∀ x ∈ l, x.1.size ≤ maxLen) (hr : Rd w A (l.flatMap scells)) (hz : s.size ≤ maxLen) :
    Calls Tryd.prog 9 #[.slice A n c, .string s, .int .i64 h] w (LkPost l s h w) := by
  have Q := hide (adAsked_any A n c l s h w hn hm hs hr hz)
  have Hn := hide hn
  have Hr := hide hr
  have HOK := hide (show lkOk l s h = (strsB l && roadB s && inB h 1 999) from rfl)
  clear hs hr hn hz
  cases hA : (strsB l && roadB s && inB h 1 999) with
  | false =>
    rw [hA] at Q
    have HE := hide (lkO_no (show lkOk l s h = false by rw [HOK.out, hA]))
    go_enter Tryd.func9, Tryd.ntmps9
    go_wp2_with fail
    refine Q.out.mono ?_
    rintro e w1 ⟨rfl, hq⟩
    go_wp2
    go_ret3
    exact LkPost.no HE.out hq
  | true =>
        rw [hA] at Q
        have HE := hide (lkO_yes (show lkOk l s h = true by rw [HOK.out, hA]))
        simp only [Bool.and_eq_true] at hA
        have HL := hide hA.1.1
        have hz10 : s.size ≤ 10 := by
          have h2 := hA.1.2
          simp only [roadB, Bool.and_eq_true, inB_iff] at h2
          omega
        have hn30 : n ≤ 30 := by have := strsB_len hA.1.1; have := Hn.out; omega
        clear hA HOK
        go_enter Tryd.func9, Tryd.ntmps9
        go_wp2_with fail
        refine Q.out.mono ?_
        rintro e w1 ⟨rfl, hq⟩
        have HB1 := hide hq
        clear hq
        go_wp2_with fail
        obtain ⟨i0, hi0, hz0, hz1, hz2⟩ := info_parts infoStrS
        have Hi := hide hi0
        have Hz := hide (And.intro hz0 (And.intro hz1 hz2))
        clear hi0 hz0 hz1 hz2
        have HLT : Hid ((w1.alloc (.cells #[.string s] 9)).ownsRow w.heap.size 9 1 (.slice (some ⟨w1.heap.size, 0, none⟩) 1 1) 1 [.string s]) := hide (World.ownsRow_lit (e := 9) (size := 1) w1 #[.string s] 1 HB1.out.size (by unfold maxLen; omega) rfl)
        have HBA := hide (below_alloc HB1.out (.cells #[.string s] 9))
        refine (adRoads_any A n c l s _ Hn.out HL.out (Hr.out.below HBA.out) hz10).mono ?_
        rintro e w2 ⟨⟨v, rfl, ho⟩, hq⟩
        obtain ⟨A2, k2, rfl, hrd, hnc, -, hno, -⟩ := own_open ho
        have HB2 := hide (below_step HBA.out hq)
        have HL2 := hide (own_below HLT.out hq)
        have hno2 : A2 = none → (roadsK l s l.length).length = 0 ∧ k2 = 0 := fun e => ⟨(hno e).1, (hno e).2.1⟩
        have hadd : ∀ ad, A2 = some ad → ∀ j u, (strL (roadsK l s l.length))[j]? = some u → w2.cell? (ad.add j) = some u := fun ad hA j u hu => by
          rcases hrd with h | ⟨b, off, hA2, hc⟩
          · rw [h] at hu; simp at hu
          · rw [hA] at hA2
            injection hA2 with hA2
            subst hA2
            rw [Addr.add_lit]
            exact hc j u hu
        have HAD := hide hadd
        have HNO := hide hno2
        have hll := roadsK_length l s l.length
        have hl30 : (roadsK l s l.length).length ≤ 30 := by have := Hn.out; omega
        clear ho hq hrd hno hadd hno2 hll HLT
        have HONE := hide (show ∀ u ∈ strL (roadsK l s l.length), u.oneCell' = true from fun u hu => by obtain ⟨x, _, rfl⟩ := List.mem_map.1 hu; rfl)
        have HSL := hide (strL_length (roadsK l s l.length))
        have HLL := hide (show (s :: roadsK l s l.length).length = 1 + (roadsK l s l.length).length by simp; omega)
        generalize roadsK l s l.length = RL at *
        go_wp2_with (at_builtin; refine wpList_append_any rfl (.tmp 18) (.tmp 21) 26 rfl w.heap.size 9 i0 (.string ByteArray.empty) 1 16 Tryd.underlying26 Hi.out Hz.out.1 Hz.out.2.1 Hz.out.2.2 rfl (by decide) _ 1 [.string s] rfl HL2.out A2 RL.length k2 (strL RL) rfl (by rw [HSL.out]; omega) HNO.out HAD.out HONE.out ?c2 ?c3 ?c4 ?_)
        case c2 => unfold maxLen; omega
        case c3 => omega
        case c4 => exact HB2.out.size
        intro v' w3 hown hgrow
        rw [show Value.string s :: strL RL = strL (s :: RL) from rfl] at hown
        obtain ⟨A3, k3, rfl, hrd, -⟩ := own_open hown
        have HRN := hide hrd
        have HB3 := hide (HB2.out.grown hgrow HB2.out.size (fun q hq => by have := (HL2.out.lt q hq).1; omega))
        clear hown hgrow hrd HAD HNO HONE
        go_wp2_with fail
        have hNL : (s :: RL).length = 1 + RL.length := HLL.out
        have HNL := hide hNL
        clear hNL
        generalize hN : 1 + RL.length = N at *
        have hN30 : N ≤ 31 := by omega
        have eN : (1 + (RL.length : Int)) = (N : Int) := by omega
        rw [eN]
        clear eN hN
        go_loopw [24] (fun t wr => ∃ j : Nat, j ≤ N ∧ t = .int .i64 j ∧ Hid (∀ (i : Nat) (x : ByteArray), i < j → (s :: RL)[i]? = some x → findI (findP x h) l < 0) ∧ Hid (Below w3.heap.size w3 wr)) (fun t _ => N - (intOf t).toNat)
        case atStart => exact ⟨0, by omega, rfl, hide (fun i x hi => absurd hi (by omega)), hide (Below.refl _ _)⟩
        case round =>
          obtain ⟨j, hj, rfl, HA, HBi⟩ := hrel
          have HBA2 := hide (below_step HB3.out HBi.out)
          by_cases hlt : j < N
          · obtain ⟨nm, hnm⟩ : ∃ x, (s :: RL)[j]? = some x := ⟨_, List.getElem?_eq_getElem (by rw [HNL.out]; exact hlt)⟩
            obtain ⟨b, off, rfl, hbs, c0⟩ := (HRN.out.below HBi.out).get1 (strL_get hnm)
            have HNM := hide hnm
            clear hnm
            go_wp2_with fail
            refine (adFind_any A n c l nm h _ Hn.out hm (Hr.out.below HBA2.out)).mono ?_
            rintro e w4 ⟨rfl, hq⟩
            have HB4 := hide (below_step HBi.out hq)
            clear hq
            rcases findI_cases (findP nm h) l with hf | ⟨q, x, hf, hq, hp⟩
            · have HN1 := hide (show ∀ (i : Nat) (x : ByteArray), i < j + 1 → (s :: RL)[i]? = some x → findI (findP x h) l < 0 from fun i x hi hx => by
                by_cases hi2 : i < j
                · exact HA.out i x hi2 hx
                · rw [show i = j by omega, HNM.out] at hx
                  injection hx with hx
                  subst hx
                  omega)
              rw [hf]
              clear hf
              go_wp2
              go_roundw
              case rel => exact ⟨j + 1, by omega, by go_num, HN1, HB4⟩
              case measure => simp [intOf]; omega
            · obtain ⟨x0, x1, x2, x3, x4⟩ := x
              have HV := hide (show lkO l s h = some (nm, x3) by
                rw [HE.out, lkF_at HNM.out (fun i y hi hy => HA.out i y hi hy) (by rw [hf]; omega), hf, nodeAt, Int.toNat_natCast, hq])
              obtain ⟨b9, off9, rfl, hb9, -, -, -, d3, -⟩ := (Hr.out.below (below_step HB3.out HB4.out)).get5 (fun _ => rfl) hq rfl
              have hqn : q < n := by have := (List.getElem?_eq_some_iff.1 hq).1; have := Hn.out; omega
              rw [hf]
              dsimp only at d3
              clear hf hq hp
              go_wp2_with fail
              go_region
              all_goals go_wp2
              all_goals go_ret3
              exact LkPost.yes HV.out (below_step HB3.out HB4.out).drew
          · have HV := hide (show lkO l s h = none by rw [HE.out]; exact lkF_none (fun i x hx => HA.out i x (by have := (List.getElem?_eq_some_iff.1 hx).1; rw [HNL.out] at this; omega) hx))
            go_wp2
            go_ret3
            exact LkPost.no HV.out HBA2.out
end Go.Proofs.YtpkhdmhfkmajcaaDoor
