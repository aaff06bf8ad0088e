/- Routes: the reference's, and RouteBetween. -/
import Derived.Test.YtbkhejkncmgdeaaTownRb
namespace Go.Proofs.Ytbkhejkncmgdeaa
open Go.RowKit
set_option linter.unusedVariables false

def ToRoutePost (k : Nat) (l : List (Int × Int × Int)) (x to : Nat) (w : World) (e : Ending) (w' : World) : Prop :=
  (∃ v, e = .returned v ∧ w'.ownsRow w.heap.size 3 1 v (restF k l (timesF k l to) to x).length (natL (restF k l (timesF k l to) to x))) ∧ Below w.heap.size w w'

set_option maxRecDepth 100000 in
set_option maxHeartbeats 8000000 in
theorem toRoute_any (k n c x to : Nat) (A : Option Addr) (l : List (Int × Int × Int)) (w : World) (hn : n = l.length) (hk : TownOk k l) (hx : x < k) (hto : to < k) (hfin : 0 ≤ timesF k l to x) (hr : Rd w A (l.flatMap tcells)) :
    Calls Try.prog 49 #[.agg #[.int .i64 (k : Int), .slice A n c], .int .i64 x, .int .i64 to] w (ToRoutePost k l x to w) := by
  obtain ⟨i0, hi0, hz0, hz1, hz2⟩ := info_parts infoIntT
  have Hi := hide hi0
  have Hz := hide (And.intro hz0 (And.intro hz1 hz2))
  have Hn := hide hn
  have Hr := hide hr
  have HK := hide hk
  have h1 := hk.lo
  have h2 := hk.hi
  have h40 : n ≤ 40 := by have := hk.len; omega
  have HD := hide (times_dist hk.fits hto)
  have HBD : Hid (∀ v, -1 ≤ timesF k l to v ∧ timesF k l to v ≤ 5000000) := hide (fun v => mid_bd (x := to) hk.fits hk.len hk.hi (F := []) (by simp) (by simp) v)
  have HF0 := hide (Row.new w #[.int .i64 (k : Int), .slice A n c] 30)
  clear hn hr hk hi0 hz0 hz1 hz2
  go_enter Try.func49, Try.ntmps49
  go_wp2_with fail
  refine (toTimes_any k n c to A l _ Hn.out h40 h2 hto HK.out.fits (Hr.out.alloc _)).mono ?_
  rintro e w1 ⟨rfl, ho, hb1⟩
  rw [show (w.alloc (.cells #[.int .i64 (k : Int), .slice A n c] 30)).heap.size = w.heap.size + 1 by simp] at ho
  have HO := hide (show OwnD w1 w.heap.size (w.heap.size + 1 + 1) k (timesF k l to) from own_le ho (by omega))
  have HB : Hid (Below w.heap.size w w1) := hide (below_step (below_alloc (Below.refl _ _) _) hb1)
  have HF1 := hide (HF0.out.below hb1)
  have HPE : Hid (∀ (B : Nat) (wr : World) (P : List Nat) (v : Value), RouteRel k l (timesF k l to) x to B wr P to v → w.heap.size ≤ B → Below w.heap.size w wr → ToRoutePost k l x to w (.returned v) wr) := hide (fun B wr P v hr hB hbw => ⟨⟨v, rfl, by
    rw [← hr.path, rest_end HD.out]
    have := own_le hr.own hB
    rw [show (P ++ [to]).length = P.length + 1 by simp]
    exact this⟩, hbw⟩)
  clear ho hb1 HF0
  generalize timesF k l to = D at *
  obtain ⟨dx0, dx1⟩ := HBD.out x
  have HFI := hide hfin
  have HR0 : Hid (RouteRel k l D x to w1.heap.size (w1.alloc (.cells #[.int .i64 (x : Int)] 3)) [] x (.slice (some ⟨w1.heap.size, 0, none⟩) 1 1)) := hide ⟨hx, hfin, rfl, World.ownsRow_lit w1 #[.int .i64 (x : Int)] 1 (Nat.le_refl _) (by unfold maxLen; omega) rfl⟩
  have HB1 : Hid (Below w.heap.size w (w1.alloc (.cells #[.int .i64 (x : Int)] 3))) := hide (below_alloc HB.out _)
  have HO1 := hide (HO.out.alloc (.cells #[.int .i64 (x : Int)] 3))
  have HF2 := hide (HF1.out.alloc (.cells #[.int .i64 (x : Int)] 3))
  have hgt : w.heap.size + 1 + 1 < w1.heap.size := HO.out.lt.2
  have HGT := hide hgt
  clear hgt HO HF1
  generalize hdx : D x = dx at *
  have HDX := hide hdx
  clear hdx hfin
  go_wp2_with fail
  generalize w1.alloc (.cells #[.int .i64 (x : Int)] 3) = w2 at *
  go_loopg [8, 9] dx.toNat (fun g v t wr => ∃ (P : List Nat) (a : Nat), t = .int .i64 a ∧ g = (D a).toNat ∧ Hid (RouteRel k l D x to w1.heap.size wr P a v) ∧ Hid (Below w.heap.size w wr) ∧ Hid (OwnD wr w.heap.size (w.heap.size + 1 + 1) k D) ∧ Hid (Row wr w.heap.size [.int .i64 (k : Int), .slice A n c]))
  case atStart => exact ⟨[], x, rfl, by rw [HDX.out], HR0, HB1, HO1, HF2⟩
  case round =>
    obtain ⟨P, a, rfl, hg, HR, HBr, HOr, HFr⟩ := hrel
    have HGK := hide hg
    clear hg HR0 HB1 HO1 HF2
    by_cases hat : a = to
    · subst hat
      have gne : (a != a) = false := by simp
      have gne' : ((a : Int) != (a : Int)) = false := by simp
      go_wp2
      go_ret
      exact HPE.out _ _ _ _ HR.out (by have := HGT.out; omega) HBr.out
    · have HAT := hide hat
      have gne : (a != to) = true := by simpa using hat
      have gne' : ((a : Int) != (to : Int)) = true := by simp; omega
      have hak := HR.out.lt
      have haf := HR.out.fin
      have HNX := hide (next_some HK.out.fits HK.out.chain HD.out haf hat)
      have HPL := hide (HR.out.len HK.out HD.out (by have := HFI.out; have := HDX.out; omega) (by have := HDX.out; omega))
      obtain ⟨wo, rfl⟩ : ∃ wo : World, wo = wr := ⟨_, rfl⟩
      clear hat
      go_wp2_with fail
      clear gne gne'
      go_loopw [10] (fun t wr => ∃ j : Nat, j < k ∧ t = .int .i64 j ∧ Hid (∀ i, i < j → nextB l D a i = false) ∧ Hid (Below wo.heap.size wo wr)) (fun t _ => k - (intOf t).toNat)
      case atStart => exact ⟨0, by omega, rfl, hide (fun i hi => absurd hi (by omega)), hide (Below.refl _ _)⟩
      case round =>
        obtain ⟨j, hlt, rfl, HM, HBo⟩ := hrel
        have HR2 := hide (HR.out.below HBo.out)
        have HB2 : Hid (Below w.heap.size w wr) := hide (below_step HBr.out HBo.out)
        have HFa := hide (HFr.out.below HBo.out)
        have p0 := HFa.out.at 0 rfl
        have p1 := HFa.out.at 1 rfl
        go_wp2_with fail
        refine (toFind_any (k : Int) A n c l a j _ Hn.out (by omega) (Hr.out.below HB2.out)).mono ?_
        rintro e w3 ⟨rfl, hq⟩
        have HBo3 : Hid (Below wo.heap.size wo w3) := hide (below_step HBo.out hq)
        have HB3 : Hid (Below w.heap.size w w3) := hide (below_step HB2.out hq)
        have HR3 := hide (HR2.out.below hq)
        have HO3 := hide (HOr.out.below HBo3.out)
        have HF3 := hide (HFa.out.below hq)
        have ta := HO3.out.cell hak
        have tj := HO3.out.cell hlt
        clear p0 p1
        have c0 := HF3.out.at 0 rfl
        have c1 := HF3.out.at 1 rfl
        have hji : (j : Int) < (k : Int) := by omega
        have hai : (a : Int) < (k : Int) := by omega
        obtain ⟨dj0, dj1⟩ := HBD.out j
        obtain ⟨da0, da1⟩ := HBD.out a
        have HNB := hide (next_eq (l := l) (D := D) (a := a) (i := j))
        clear hq
        have HMN : nextB l D a j = false → Hid ((∀ i, i < j + 1 → nextB l D a i = false) ∧ j + 1 < k) := fun hp => hide (by
          have hh : ∀ i, i < j + 1 → nextB l D a i = false := fun i hi => by
            by_cases hi2 : i < j
            · exact HM.out i hi2
            · rw [show i = j by omega]; exact hp
          refine ⟨hh, ?_⟩
          obtain ⟨i, hi, hni⟩ := HNX.out
          by_cases hlt2 : i < j + 1
          · rw [hh i hlt2] at hni; cases hni
          · omega)
        have HMNN := hide HMN
        clear HMN
        by_cases hja : j = a
        · have HN := HMNN.out (by rw [HNB.out]; simp [hja])
          have g1 : ((j : Int) != (a : Int)) = false := by simp [hja]
          have g1' : (j != a) = false := by simp [hja]
          clear hja HMNN
          generalize stFind l a j = s at *
          go_wp2_with fail
          go_quiet (fail)
          go_wp2
          go_roundw
          case rel => exact ⟨j + 1, HN.out.2, by go_num, hide HN.out.1, hide (below_drewN HBo3.out _)⟩
          case measure => simp [intOf]; omega
        · have g1 : ((j : Int) != (a : Int)) = true := by simp; omega
          have g1' : (j != a) = true := by simpa using hja
          by_cases hs : 0 ≤ stFind l a j
          · by_cases hdj : 0 ≤ D j
            · obtain ⟨q, hq, hql⟩ := stFind_lt hs
              obtain ⟨⟨t0, t1, t2⟩, ht⟩ : ∃ h, l[q]? = some h := ⟨_, List.getElem?_eq_getElem hql⟩
              obtain ⟨b3, off3, hA3, hbs3, e0, e1, e2⟩ := (Hr.out.below HB3.out).get3 (fun _ => rfl) ht rfl
              subst hA3
              dsimp only at e2
              have hft := fitB_iff.1 (HK.out.fits _ (List.mem_of_getElem? ht))
              dsimp only at hft
              obtain ⟨_, _, _, t2a, t2b⟩ := hft
              have hqn : q < n := by have := Hn.out; omega
              have p0 : (0 : Int) ≤ (q : Int) := by omega
              have p1 : (q : Int) < (n : Int) := by omega
              have gd : decide (0 ≤ D j) = true := by simpa using hdj
              have HSEC := hide (show secOf l (stFind l a j) = t2 by rw [hq]; exact sec_at ht)
              by_cases heq : D j + t2 = D a
              · have HNT : Hid (nextB l D a j = true) := hide (by rw [HNB.out, HSEC.out]; simp [hja, hs, hdj, heq])
                have geq : (D j + t2 == D a) = true := by simpa using heq
                rw [hq]
                clear HMNN HNB HSEC hja hs hdj heq hq ht hql e0 e1
                have HDJ := hide (show D j = D j from rfl)
                generalize hdj : D j = dj at *
                generalize hda : D a = da at *
                have Hdj := hide hdj
                have Hda := hide hda
                clear hdj hda
                go_wp2_with fail
                go_quiet (fail)
                obtain ⟨w4, hw4⟩ : ∃ w4 : World, w4 = w3.drewN nq := ⟨_, rfl⟩
                rw [← hw4]
                have HB4 : Hid (Below w3.heap.size w3 w4) := hide (by rw [hw4]; exact below_drewN (Below.refl _ _) _)
                have HR4 := hide (HR3.out.below HB4.out)
                have HO4 := hide (HO3.out.below HB4.out)
                have HF4 := hide (HF3.out.below HB4.out)
                have HBw4 : Hid (Below w.heap.size w w4) := hide (below_step HB3.out HB4.out)
                clear hw4 ta tj c1 e2 HB4 HR3 HO3 HR2 c0
                have HOA := hide (HR4.out.own.alloc (.cells #[.int .i64 (j : Int)] 3))
                have HNC := hide (Row.new w4 #[.int .i64 (j : Int)] 3).rd.add
                have hwz : w1.heap.size ≤ (w4.alloc (.cells #[.int .i64 (j : Int)] 3)).heap.size := by obtain ⟨g9, cap9, _, hg9, hg9', _⟩ := own_some HR4.out.own (by omega); simp; omega
                have HWZ := hide hwz
                clear hwz
                go_wp2_with (at_builtin; refine wpList_append_own _ rfl (.tmp 59) (.tmp 61) 45 rfl w1.heap.size 3 i0 (.int .i64 0) 1 8 Try.underlying45 Hi.out Hz.out.1 Hz.out.2.1 Hz.out.2.2 rfl (by decide) _ _ _ rfl HOA.out ⟨w4.heap.size, 0, none⟩ 1 1 [.int .i64 (j : Int)] rfl rfl HNC.out ?c1 ?c2 ?c3 HWZ.out ?_)
                case c1 => simp [Value.oneCell']
                case c2 => have := HPL.out; unfold maxLen; omega
                case c3 => have := HPL.out; omega
                intro v' w5 hown hgrow _
                obtain ⟨HR5', hlt5⟩ := HR4.out.next HK.out HD.out HAT.out hlt HNT.out (fun i hi => HM.out i hi) hown
                have HR5 := hide HR5'
                have hbl := fun q hq => (HR4.out.own.lt q hq).1
                have HBw5 : Hid (Below w.heap.size w w5) := hide ((below_alloc HBw4.out _).grown hgrow (by have := HBw4.out.size; simp; omega) (fun q hq => by have := hbl q hq; have := HGT.out; omega))
                have HO5 := hide ((HO4.out.alloc (.cells #[.int .i64 (j : Int)] 3)).kept hgrow (fun e => by have := hbl _ e.symm; have := HGT.out; omega))
                have HF5 := hide ((HF4.out.alloc (.cells #[.int .i64 (j : Int)] 3)).grown hgrow (fun e => by have := hbl _ e.symm; have := HGT.out; omega))
                have hpl : (P ++ [a]).length ≤ 5000001 := by have := HPL.out; simp; omega
                clear hown hgrow HR5' hbl HOA HNC HWZ
                have HLT : Hid ((D j).toNat < gk) := hide (by rw [HGK.out, ← Hda.out]; exact hlt5)
                clear hlt5 HNT HR4 HR
                go_wp2
                go_roundg (D j).toNat
                case rel => exact ⟨_, j, rfl, rfl, HR5, HBw5, HO5, HF5⟩
                case measure => exact HLT.out
              · have HN := HMNN.out (by rw [HNB.out, HSEC.out]; simp [heq])
                have geq : (D j + t2 == D a) = false := by simpa using heq
                rw [hq]
                clear HMNN HNB HSEC hja hs hdj heq hq ht hql e0 e1
                generalize D j = dj at *
                generalize D a = da at *
                go_wp2_with fail
                go_quiet (fail)
                go_wp2
                go_roundw
                case rel => exact ⟨j + 1, HN.out.2, by go_num, hide HN.out.1, hide (below_drewN HBo3.out _)⟩
                case measure => simp [intOf]; omega
            · have HN := HMNN.out (by rw [HNB.out]; simp [hdj])
              have gd : decide (0 ≤ D j) = false := by simpa using hdj
              clear HMNN hdj HNB
              generalize D j = dj at *
              generalize D a = da at *
              generalize stFind l a j = s at *
              go_wp2_with fail
              go_quiet (fail)
              go_wp2
              go_roundw
              case rel => exact ⟨j + 1, HN.out.2, by go_num, hide HN.out.1, hide (below_drewN HBo3.out _)⟩
              case measure => simp [intOf]; omega
          · have HN := HMNN.out (by rw [HNB.out]; simp [hs])
            clear HMNN HNB
            have gs : decide (0 ≤ stFind l a j) = false := by simpa using hs
            generalize stFind l a j = s at *
            go_wp2_with fail
            go_quiet (fail)
            go_wp2
            go_roundw
            case rel => exact ⟨j + 1, HN.out.2, by go_num, hide HN.out.1, hide (below_drewN HBo3.out _)⟩
            case measure => simp [intOf]; omega
end Go.Proofs.Ytbkhejkncmgdeaa
