/- Routes: what the program's and the reference's loops hand back. -/
import Derived.Test.YtbkhejkncmgdeaaTownCl
import Derived.Test.YtbkhejkncmgdeaaTownW
import Derived.Test.YtbkhejkncmgdeaaTownRt
import Derived.Test.YtbkhejkncmgdeaaIntS
namespace Go.Proofs.Ytbkhejkncmgdeaa
open Go.RowKit
set_option linter.unusedVariables false

def restF (nd : Nat) (l : List (Int × Int × Int)) (D : Nat → Int) (to a : Nat) : List Nat := routeL nd l D to (D a).toNat a
section
variable {nd : Nat} {l : List (Int × Int × Int)} {to : Nat} {D : Nat → Int}
theorem rest_end (hd : IsDist (edges l) to D) : restF nd l D to to = [to] := by
  rw [restF, hd.zero]; rfl
theorem rest_step (h : Fits nd l) (hc : chainB (fitB nd) befB l = true) (hd : IsDist (edges l) to D) {a i : Nat} (h0 : 0 ≤ D a) (ha : a ≠ to) (hi : i < nd) (hn : nextB l D a i = true) (hmin : ∀ j, j < i → nextB l D a j = false) :
    restF nd l D to a = a :: restF nd l D to i ∧ 0 ≤ D i ∧ (D i).toNat < (D a).toNat := by
  obtain ⟨h1, h2, _⟩ := nextB_lt h hn
  refine ⟨?_, h1, by omega⟩
  obtain ⟨m, hm⟩ : ∃ m, (D a).toNat = m + 1 := ⟨(D a).toNat - 1, by omega⟩
  rw [restF, hm, routeL, if_neg ha, nextF_eq hi hn hmin]
  congr 1
  exact routeL_fuel h hc hd _ _ _ h1 (by omega) (by omega)
theorem rest_length (h : Fits nd l) (hc : chainB (fitB nd) befB l = true) (hd : IsDist (edges l) to D) : ∀ (m a : Nat), 0 ≤ D a → D a ≤ m → (restF nd l D to a).length ≤ m + 1 := by
  intro m
  induction m with
  | zero =>
    intro a h0 hm
    have : (D a).toNat = 0 := by omega
    rw [restF, this]
    simp [routeL]
  | succ m ih =>
    intro a h0 hm
    by_cases ha : a = to
    · subst ha; rw [rest_end hd]; simp
    · obtain ⟨h1, h2, h3⟩ := nextF_spec (next_some h hc hd h0 ha)
      obtain ⟨h4, h5, h6⟩ := rest_step h hc hd h0 ha h1 h2 h3
      rw [h4, List.length_cons]
      have := ih _ h5 (by omega)
      omega
end
def natL (L : List Nat) : List Value := L.map fun i : Nat => Value.int .i64 (i : Int)
theorem natL_append (A B : List Nat) : natL (A ++ B) = natL A ++ natL B := by simp [natL]
theorem natL_length (A : List Nat) : (natL A).length = A.length := by simp [natL]

theorem OwnD.kept {w w' : World} {B g nd : Nat} {d : Nat → Int} {row : Option Nat} (h : OwnD w B g nd d) (hg : w.grownBy w' row) (hne : some g ≠ row) : OwnD w' B g nd d :=
  own_kept h hg (fun q hq e => hne (by have hq' : g = q := by simpa [Value.ownBlock] using hq
                                       rw [hq']; exact e))

/-- The route so far: P behind it, a where it stands. -/
structure RouteRel (k : Nat) (l : List (Int × Int × Int)) (D : Nat → Int) (x to : Nat) (B : Nat) (wr : World) (P : List Nat) (a : Nat) (v : Value) : Prop where
  lt : a < k
  fin : 0 ≤ D a
  path : P ++ restF k l D to a = restF k l D to x
  own : wr.ownsRow B 3 1 v (P.length + 1) (natL (P ++ [a]))
section
variable {k : Nat} {l : List (Int × Int × Int)} {D : Nat → Int} {x to B : Nat} {wr w' : World} {P : List Nat} {a : Nat} {v : Value}
theorem RouteRel.below (h : RouteRel k l D x to B wr P a v) (hb : Below wr.heap.size wr w') : RouteRel k l D x to B w' P a v := ⟨h.lt, h.fin, h.path, own_below h.own hb⟩
theorem RouteRel.len (h : RouteRel k l D x to B wr P a v) (hk : TownOk k l) (hd : IsDist (edges l) to D) (hx0 : 0 ≤ D x) (hx : D x ≤ 5000000) : P.length ≤ 5000000 := by
  have h1 := rest_length hk.fits hk.chain hd 5000000 x hx0 (by omega)
  have h2 : 1 ≤ (restF k l D to a).length := by
    unfold restF
    cases (D a).toNat with
    | zero => simp [routeL]
    | succ m => rw [routeL]; split <;> simp
  rw [← h.path, List.length_append] at h1
  omega
theorem RouteRel.next (h : RouteRel k l D x to B wr P a v) (hk : TownOk k l) (hd : IsDist (edges l) to D) (ha : a ≠ to) {i : Nat} (hi : i < k) (hn : nextB l D a i = true) (hmin : ∀ j, j < i → nextB l D a j = false) {v' : Value} (ho : w'.ownsRow B 3 1 v' (P.length + 1 + 1) (natL (P ++ [a]) ++ [.int .i64 (i : Int)])) :
    RouteRel k l D x to B w' (P ++ [a]) i v' ∧ (D i).toNat < (D a).toNat := by
  obtain ⟨h1, h2, h3⟩ := rest_step hk.fits hk.chain hd h.fin ha hi hn hmin
  refine ⟨⟨hi, h2, ?_, ?_⟩, h3⟩
  · rw [List.append_assoc, List.singleton_append, ← h1]; exact h.path
  · rw [List.length_append, natL_append (P ++ [a])]
    exact ho
end
theorem next_eq {l : List (Int × Int × Int)} {D : Nat → Int} {a i : Nat} : nextB l D a i = (!decide (i = a) && decide (0 ≤ stFind l a i) && decide (0 ≤ D i) && decide (D i + secOf l (stFind l a i) = D a)) := rfl

def RoutePost (k : Nat) (l : List (Int × Int × Int)) (x to : Nat) (w : World) (e : Ending) (w' : World) : Prop :=
  (∃ v, e = .returned (.tuple #[v, .bool (decide (0 ≤ timesF k l to x))]) ∧ w'.ownsRow w.heap.size 3 1 v (if 0 ≤ timesF k l to x then restF k l (timesF k l to) to x else []).length (natL (if 0 ≤ timesF k l to x then restF k l (timesF k l to) to x else []))) ∧ Below w.heap.size w w'
theorem RoutePost.no {k : Nat} {l : List (Int × Int × Int)} {x to : Nat} {w w' : World} (h : ¬ 0 ≤ timesF k l to x) (hb : Below w.heap.size w w') : RoutePost k l x to w (.returned (.tuple #[.slice none 0 0, .bool false])) w' := by
  refine ⟨⟨.slice none 0 0, by rw [decide_eq_false h], ?_⟩, hb⟩
  rw [if_neg h]
  exact World.ownsRow_nil _ _ _ _
theorem RoutePost.yes {k : Nat} {l : List (Int × Int × Int)} {x to B : Nat} {w w' : World} {P : List Nat} {v : Value} (h : 0 ≤ timesF k l to x) (hd : IsDist (edges l) to (timesF k l to)) (hr : RouteRel k l (timesF k l to) x to B w' P to v) (hB : w.heap.size ≤ B) (hb : Below w.heap.size w w') : RoutePost k l x to w (.returned (.tuple #[v, .bool true])) w' := by
  refine ⟨⟨v, by rw [decide_eq_true h], ?_⟩, hb⟩
  rw [if_pos h, ← hr.path, rest_end hd]
  have := own_le hr.own hB
  rw [show (P ++ [to]).length = P.length + 1 by simp]
  exact this

set_option maxRecDepth 100000 in
set_option maxHeartbeats 8000000 in
theorem route_any (b0 k n c x to : Nat) (A : Option Addr) (l : List (Int × Int × Int)) (w : World) (hn : n = l.length) (hk : TownOk k l) (hx : x < k) (hto : to < k) (hr : Rd w A (l.flatMap tcells)) (hc0 : w.cell? ⟨b0, 0, none⟩ = some (.int .i64 (k : Int))) (hc1 : w.cell? ⟨b0, 1, none⟩ = some (.slice A n c)) :
    Calls Try.prog 48 #[.pointer (some ⟨b0, 0, none⟩), .int .i64 x, .int .i64 to] w (RoutePost k l x to w) := by
  obtain ⟨i0, hi0, hz0, hz1, hz2⟩ := info_parts infoIntT
  have Hi := hide hi0
  have Hz := hide (And.intro hz0 (And.intro hz1 hz2))
  have Hn := hide hn
  have Hr := hide hr
  have HC0 := hide hc0
  have HC1 := hide hc1
  have HK := hide hk
  have h1 := hk.lo
  have h2 := hk.hi
  have h40 : n ≤ 40 := by have := hk.len; omega
  have HD := hide (times_dist hk.fits hto)
  have HBD : Hid (∀ v, -1 ≤ timesF k l to v ∧ timesF k l to v ≤ 5000000) := hide (fun v => mid_bd (x := to) hk.fits hk.len hk.hi (F := []) (by simp) (by simp) v)
  have hb0 := World.block_lt_of_cell? w _ hc0
  dsimp only at hb0
  clear hn hr hk hi0 hz0 hz1 hz2
  go_enter Try.func48, Try.ntmps48
  go_wp2_with fail
  refine (times_any b0 k n c to A l _ Hn.out h40 h2 hto HK.out.fits Hr.out hc0 hc1).mono ?_
  rintro e w1 ⟨rfl, ho, hb1⟩
  have HO := hide ho
  have HB := hide hb1
  have d0 := ho.cell hx
  have hxi : (x : Int) < (k : Int) := by omega
  have HPN := hide (fun (w' : World) (h : ¬ 0 ≤ timesF k l to x) (hb : Below w.heap.size w w') => RoutePost.no (k := k) (l := l) (x := x) (to := to) (w := w) (w' := w') h hb)
  have HPY := hide (fun (w' : World) (B : Nat) (P : List Nat) (v : Value) (h : 0 ≤ timesF k l to x) (hr : RouteRel k l (timesF k l to) x to B w' P to v) (hB : w.heap.size ≤ B) (hb : Below w.heap.size w w') => RoutePost.yes (w := w) h HD.out hr hB hb)
  clear ho hb1 hc0 hc1
  generalize timesF k l to = D at *
  obtain ⟨dx0, dx1⟩ := HBD.out x
  by_cases hfin : 0 ≤ D x
  · have HFI := hide hfin
    have hneg : decide (D x < 0) = false := by simpa using hfin
    have HR0 : Hid (RouteRel k l D x to w1.heap.size (w1.alloc (.cells #[.int .i64 (x : Int)] 3)) [] x (.slice (some ⟨w1.heap.size, 0, none⟩) 1 1)) := hide ⟨hx, hfin, rfl, World.ownsRow_lit w1 #[.int .i64 (x : Int)] 1 (Nat.le_refl _) (by unfold maxLen; omega) rfl⟩
    have HB1 : Hid (Below w.heap.size w (w1.alloc (.cells #[.int .i64 (x : Int)] 3))) := hide (below_alloc HB.out _)
    have HO1 := hide (HO.out.alloc (.cells #[.int .i64 (x : Int)] 3))
    have hgt : w.heap.size + 1 < w1.heap.size := HO.out.lt.2
    have HGT := hide hgt
    clear hgt HO
    generalize hdx : D x = dx at *
    have HDX := hide hdx
    clear hdx hfin
    go_wp2_with fail
    clear d0
    generalize w1.alloc (.cells #[.int .i64 (x : Int)] 3) = w2 at *
    go_loopg [9, 10] dx.toNat (fun g v t wr => ∃ (P : List Nat) (a : Nat), t = .int .i64 a ∧ g = (D a).toNat ∧ Hid (RouteRel k l D x to w1.heap.size wr P a v) ∧ Hid (Below w.heap.size w wr) ∧ Hid (OwnD wr w.heap.size (w.heap.size + 1) k D))
    case atStart => exact ⟨[], x, rfl, by rw [HDX.out], HR0, HB1, HO1⟩
    case round =>
      obtain ⟨P, a, rfl, hg, HR, HBr, HOr⟩ := hrel
      have HGK := hide hg
      clear hg HR0 HB1 HO1
      by_cases hat : a = to
      · subst hat
        have gne : (a != a) = false := by simp
        have gne' : ((a : Int) != (a : Int)) = false := by simp
        go_wp2
        go_ret2
        exact HPY.out _ _ _ _ (by have := HFI.out; have := HDX.out; omega) HR.out (by have := HGT.out; omega) HBr.out
      · have HAT := hide hat
        have gne : (a != to) = true := by simpa using hat
        have gne' : ((a : Int) != (to : Int)) = true := by simp; omega
        have hak := HR.out.lt
        have haf := HR.out.fin
        have HNX := hide (next_some HK.out.fits HK.out.chain HD.out haf hat)
        have HPL := hide (HR.out.len HK.out HD.out (by have := HFI.out; have := HDX.out; omega) (by have := HDX.out; omega))
        have q0 := cell_on HC0.out HBr.out
        obtain ⟨wo, rfl⟩ : ∃ wo : World, wo = wr := ⟨_, rfl⟩
        clear hat
        go_wp2_with fail
        clear q0 gne gne'
        go_loopw [9, 37] (fun v t wr => v = u9 ∧ ∃ j : Nat, j ≤ k ∧ t = .int .i64 j ∧ Hid (∀ i, i < j → nextB l D a i = false) ∧ Hid (Below wo.heap.size wo wr)) (fun _ t _ => k - (intOf t).toNat)
        case atStart => exact ⟨rfl, 0, by omega, rfl, hide (fun i hi => absurd hi (by omega)), hide (Below.refl _ _)⟩
        case round =>
          obtain ⟨rfl, j, hj, rfl, HM, HBo⟩ := hrel
          have HR2 := hide (HR.out.below HBo.out)
          have HB2 : Hid (Below w.heap.size w wr) := hide (below_step HBr.out HBo.out)
          by_cases hlt : j < k
          · have q1 := cell_on HC1.out HB2.out
            go_wp2_with fail
            refine (street_any b0 A n c l a j _ Hn.out (by omega) (Hr.out.below HB2.out) q1).mono ?_
            rintro e w3 ⟨rfl, hq⟩
            have HBo3 : Hid (Below wo.heap.size wo w3) := hide (below_step HBo.out hq)
            have HB3 : Hid (Below w.heap.size w w3) := hide (below_step HB2.out hq)
            have HR3 := hide (HR2.out.below hq)
            have HO3 := hide (HOr.out.below HBo3.out)
            have ta := HO3.out.cell hak
            have tj := HO3.out.cell hlt
            have c1 := cell_on HC1.out HB3.out
            have hji : (j : Int) < (k : Int) := by omega
            have hai : (a : Int) < (k : Int) := by omega
            obtain ⟨dj0, dj1⟩ := HBD.out j
            obtain ⟨da0, da1⟩ := HBD.out a
            have HNB := hide (next_eq (l := l) (D := D) (a := a) (i := j))
            clear hq q1
            have HMN : nextB l D a j = false → Hid (∀ i, i < j + 1 → nextB l D a i = false) := fun hp => hide (fun i hi => by
              by_cases hi2 : i < j
              · exact HM.out i hi2
              · rw [show i = j by omega]; exact hp)
            have HMNN := hide HMN
            clear HMN
            by_cases hja : j = a
            · have HN := HMNN.out (by rw [HNB.out]; simp [hja])
              have g1 : ((j : Int) != (a : Int)) = false := by simp [hja]
              have g1' : (j != a) = false := by simp [hja]
              clear hja HMNN
              generalize stFind l a j = s at *
              go_wp2_with fail
              go_quiet (fail)
              go_wp2
              go_roundw
              case rel => exact ⟨rfl, j + 1, by omega, by go_num, HN, hide (below_drewN HBo3.out _)⟩
              case measure => simp [intOf]; omega
            · have g1 : ((j : Int) != (a : Int)) = true := by simp; omega
              have g1' : (j != a) = true := by simpa using hja
              by_cases hs : 0 ≤ stFind l a j
              · by_cases hdj : 0 ≤ D j
                · obtain ⟨q, hq, hql⟩ := stFind_lt hs
                  obtain ⟨⟨t0, t1, t2⟩, ht⟩ : ∃ h, l[q]? = some h := ⟨_, List.getElem?_eq_getElem hql⟩
                  obtain ⟨b3, off3, hA3, hbs3, e0, e1, e2⟩ := (Hr.out.below HB3.out).get3 (fun _ => rfl) ht rfl
                  subst hA3
                  dsimp only at e2
                  have hft := fitB_iff.1 (HK.out.fits _ (List.mem_of_getElem? ht))
                  dsimp only at hft
                  obtain ⟨_, _, _, t2a, t2b⟩ := hft
                  have hqn : q < n := by have := Hn.out; omega
                  have p0 : (0 : Int) ≤ (q : Int) := by omega
                  have p1 : (q : Int) < (n : Int) := by omega
                  have gd : decide (0 ≤ D j) = true := by simpa using hdj
                  have HSEC := hide (show secOf l (stFind l a j) = t2 by rw [hq]; exact sec_at ht)
                  by_cases heq : D j + t2 = D a
                  · have HNT : Hid (nextB l D a j = true) := hide (by rw [HNB.out, HSEC.out]; simp [hja, hs, hdj, heq])
                    have geq : (D j + t2 == D a) = true := by simpa using heq
                    rw [hq]
                    clear HMNN HNB HSEC hja hs hdj heq hq ht hql e0 e1
                    have HDJ := hide (show D j = D j from rfl)
                    generalize hdj : D j = dj at *
                    generalize hda : D a = da at *
                    have Hdj := hide hdj
                    have Hda := hide hda
                    clear hdj hda
                    go_wp2_with fail
                    go_quiet (fail)
                    obtain ⟨w4, hw4⟩ : ∃ w4 : World, w4 = w3.drewN nq := ⟨_, rfl⟩
                    rw [← hw4]
                    have HB4 : Hid (Below w3.heap.size w3 w4) := hide (by rw [hw4]; exact below_drewN (Below.refl _ _) _)
                    have HR4 := hide (HR3.out.below HB4.out)
                    have HO4 := hide (HO3.out.below HB4.out)
                    have HBw4 : Hid (Below w.heap.size w w4) := hide (below_step HB3.out HB4.out)
                    clear hw4 ta tj c1 e2 HB4 HR3 HO3 HR2
                    have HOA := hide (HR4.out.own.alloc (.cells #[.int .i64 (j : Int)] 3))
                    have HNC := hide (Row.new w4 #[.int .i64 (j : Int)] 3).rd.add
                    have hwz : w1.heap.size ≤ (w4.alloc (.cells #[.int .i64 (j : Int)] 3)).heap.size := by obtain ⟨g9, cap9, _, hg9, hg9', _⟩ := own_some HR4.out.own (by omega); simp; omega
                    have HWZ := hide hwz
                    clear hwz
                    go_wp2_with (at_builtin; refine wpList_append_own _ rfl (.tmp 78) (.tmp 80) 45 rfl w1.heap.size 3 i0 (.int .i64 0) 1 8 Try.underlying45 Hi.out Hz.out.1 Hz.out.2.1 Hz.out.2.2 rfl (by decide) _ _ _ rfl HOA.out ⟨w4.heap.size, 0, none⟩ 1 1 [.int .i64 (j : Int)] rfl rfl HNC.out ?c1 ?c2 ?c3 HWZ.out ?_)
                    case c1 => simp [Value.oneCell']
                    case c2 => have := HPL.out; unfold maxLen; omega
                    case c3 => have := HPL.out; omega
                    intro v' w5 hown hgrow _
                    obtain ⟨HR5', hlt5⟩ := HR4.out.next HK.out HD.out HAT.out hlt HNT.out (fun i hi => HM.out i hi) hown
                    have HR5 := hide HR5'
                    have hbl := fun q hq => (HR4.out.own.lt q hq).1
                    have HBw5 : Hid (Below w.heap.size w w5) := hide ((below_alloc HBw4.out _).grown hgrow (by have := HBw4.out.size; simp; omega) (fun q hq => by have := hbl q hq; have := HGT.out; omega))
                    have HO5 := hide ((HO4.out.alloc (.cells #[.int .i64 (j : Int)] 3)).kept hgrow (fun e => by have := hbl _ e.symm; have := HGT.out; omega))
                    have hpl : (P ++ [a]).length ≤ 5000001 := by have := HPL.out; simp; omega
                    clear hown hgrow HR5' hbl HOA HNC HWZ
                    have HLT : Hid ((D j).toNat < gk) := hide (by rw [HGK.out, ← Hda.out]; exact hlt5)
                    clear hlt5 HNT HR4 HR
                    generalize P ++ [a] = P' at *
                    obtain ⟨g5, cap5, rfl, hg5a, hg5b, hg5c, hg5d⟩ := own_some HR5.out.own (by omega)
                    have hlast : w5.cell? ⟨g5, P'.length, none⟩ = some (.int .i64 (j : Int)) := by
                      rw [World.ownsRow.cellAt HR5.out.own P'.length (by omega)]
                      simp [natL]
                    unfold maxLen at hg5d
                    generalize P'.length = m5 at *
                    go_wp2
                    go_roundg (D j).toNat
                    case rel => exact ⟨_, j, rfl, rfl, HR5, HBw5, HO5⟩
                    case measure => exact HLT.out
                  · have HN := HMNN.out (by rw [HNB.out, HSEC.out]; simp [heq])
                    have geq : (D j + t2 == D a) = false := by simpa using heq
                    rw [hq]
                    clear HMNN HNB HSEC hja hs hdj heq hq ht hql e0 e1
                    generalize D j = dj at *
                    generalize D a = da at *
                    go_wp2_with fail
                    go_quiet (fail)
                    go_wp2
                    go_roundw
                    case rel => exact ⟨rfl, j + 1, by omega, by go_num, HN, hide (below_drewN HBo3.out _)⟩
                    case measure => simp [intOf]; omega
                · have HN := HMNN.out (by rw [HNB.out]; simp [hdj])
                  have gd : decide (0 ≤ D j) = false := by simpa using hdj
                  clear HMNN hdj HNB
                  generalize D j = dj at *
                  generalize D a = da at *
                  generalize stFind l a j = s at *
                  go_wp2_with fail
                  go_quiet (fail)
                  go_wp2
                  go_roundw
                  case rel => exact ⟨rfl, j + 1, by omega, by go_num, HN, hide (below_drewN HBo3.out _)⟩
                  case measure => simp [intOf]; omega
              · have HN := HMNN.out (by rw [HNB.out]; simp [hs])
                clear HMNN HNB
                have gs : decide (0 ≤ stFind l a j) = false := by simpa using hs
                generalize stFind l a j = s at *
                go_wp2_with fail
                go_quiet (fail)
                go_wp2
                go_roundw
                case rel => exact ⟨rfl, j + 1, by omega, by go_num, HN, hide (below_drewN HBo3.out _)⟩
                case measure => simp [intOf]; omega
          · exfalso
            obtain ⟨i, hi, hn⟩ := HNX.out
            have := HM.out i (by omega)
            rw [hn] at this
            cases this
  · have hneg : decide (D x < 0) = true := by simpa using hfin
    have HFI := hide hfin
    generalize D x = dx at *
    go_wp2
    go_ret2
    exact HPN.out _ (by have := HFI.out; omega) HB.out
end Go.Proofs.Ytbkhejkncmgdeaa
