/- Travel times: what the reference's loops hand back. -/
import Derived.Test.YtbhnaakknfienaaGreatDoorTownQ
import Derived.Test.YtbhnaakknfienaaGreatDoorOwn
import Derived.Test.YtbhnaakknfienaaGreatDoorConvStreet
import Derived.Outline
namespace Go.Proofs.YtbhnaakknfienaaGreatDoor
open Go.RowKit
set_option linter.unusedVariables false

def rowOf (nd : Nat) (d : Nat → Int) : List Value := (List.range nd).map fun i => Value.int .i64 (d i)
section
variable {nd : Nat} {d d' : Nat → Int}
theorem rowOf_length : (rowOf nd d).length = nd := by simp [rowOf]
theorem rowOf_get {i : Nat} (h : i < nd) : (rowOf nd d)[i]? = some (.int .i64 (d i)) := by simp [rowOf, h]
theorem rowOf_congr (h : ∀ i, i < nd → d i = d' i) : rowOf nd d = rowOf nd d' := by
  unfold rowOf
  refine List.map_congr_left fun i hi => ?_
  rw [h i (by simpa using hi)]
theorem rowOf_set {i : Nat} (h : i < nd) (x : Int) : (rowOf nd d).set i (.int .i64 x) = rowOf nd (upd d i x) := by
  refine List.ext_getElem? fun j => ?_
  rw [List.getElem?_set]
  by_cases hj : j < nd
  · by_cases hij : i = j
    · subst hij; rw [rowOf_get h, if_pos rfl, if_pos (by rw [rowOf_length]; exact h)]; have : upd d i x i = x := by unfold upd; rw [if_pos rfl]
      rw [rowOf_get h, this]
    · rw [if_neg hij, rowOf_get hj, rowOf_get hj]; simp [upd, show ¬ j = i from fun e => hij e.symm]
  · have e1 : (rowOf nd d)[j]? = none := List.getElem?_eq_none (by rw [rowOf_length]; omega)
    have e2 : (rowOf nd (upd d i x))[j]? = none := List.getElem?_eq_none (by rw [rowOf_length]; omega)
    rw [e1, e2, if_neg (by omega)]
end

/-- A row of numbers of the call's own. -/
def OwnD (w : World) (B g nd : Nat) (d : Nat → Int) : Prop := w.ownsRow B 3 1 (.slice (some ⟨g, 0, none⟩) nd nd) nd (rowOf nd d)
section
variable {w w' : World} {B g nd : Nat} {d d' : Nat → Int}
theorem OwnD.cell (h : OwnD w B g nd d) {i : Nat} (hi : i < nd) : w.cell? ⟨g, i, none⟩ = some (.int .i64 (d i)) := by
  rw [World.ownsRow.cellAt h i (by omega), rowOf_get hi]
theorem OwnD.free (h : OwnD w B g nd d) (i : Nat) : w.frozen? ⟨g, i, none⟩ = false := World.ownsRow.frozenAt h i
theorem OwnD.set (h : OwnD w B g nd d) {i : Nat} (hi : i < nd) (x : Int) : OwnD (w.setCell ⟨g, i, none⟩ (.int .i64 x)) B g nd (upd d i x) := by
  have := (World.ownsRow.stored h i (.int .i64 x)).1
  rw [rowOf_set hi] at this
  exact this
theorem OwnD.below (h : OwnD w B g nd d) (hb : Below w.heap.size w w') : OwnD w' B g nd d := own_below h hb
theorem OwnD.alloc (h : OwnD w B g nd d) (o : Obj) : OwnD (w.alloc o) B g nd d := World.ownsRow.alloc h o
theorem OwnD.drew (h : OwnD w B g nd d) : OwnD w.drew B g nd d := h
theorem OwnD.congr (h : OwnD w B g nd d) (e : ∀ i, i < nd → d i = d' i) : OwnD w B g nd d' := by
  unfold OwnD at *
  rw [← rowOf_congr e]
  exact h
theorem OwnD.lt (h : OwnD w B g nd d) : B ≤ g ∧ g < w.heap.size := World.ownsRow.lt h g rfl
theorem OwnD.new (w : World) (B nd : Nat) (hB : B ≤ w.heap.size) (hn : nd ≤ maxLen) (c : Array Value) (hc : c.toList = rowOf nd d) : OwnD (w.alloc (.cells c 3)) B w.heap.size nd d := by
  have := World.ownsRow_lit (e := 3) (size := 1) w c nd hB hn (by rw [← Array.length_toList, hc, rowOf_length, Nat.mul_one])
  rw [hc] at this
  exact this
end

theorem int_at (w : World) (A : Addr) (h : w.cell? A = none) : True := trivial

/-- The town's box and the row of times, in a later world. -/
structure TS (w wr : World) (nd n c : Nat) (A : Option Addr) (d : Nat → Int) : Prop where
  bel : Below w.heap.size w wr
  box : Row wr w.heap.size [.int .i64 (nd : Int), .slice A n c]
  own : OwnD wr w.heap.size (w.heap.size + 1) nd d
section
variable {w wr w' : World} {nd n c : Nat} {A : Option Addr} {d d' : Nat → Int}
theorem TS.set (h : TS w wr nd n c A d) {i : Nat} (hi : i < nd) (x : Int) : TS w (wr.setCell ⟨w.heap.size + 1, i, none⟩ (.int .i64 x)) nd n c A (upd d i x) :=
  ⟨h.bel.setCell (by simp) _, h.box.far (by simp) _, h.own.set hi x⟩
theorem TS.below (h : TS w wr nd n c A d) (hb : Below wr.heap.size wr w') : TS w w' nd n c A d := ⟨below_step h.bel hb, h.box.below hb, h.own.below hb⟩
theorem TS.alloc (h : TS w wr nd n c A d) (o : Obj) : TS w (wr.alloc o) nd n c A d := h.below ((Below.refl _ _).alloc (Nat.le_refl _) _)
theorem TS.drew (h : TS w wr nd n c A d) : TS w wr.drew nd n c A d := ⟨h.bel.drew, h.box.drew, h.own.drew⟩
theorem TS.congr (h : TS w wr nd n c A d) (e : ∀ i, i < nd → d i = d' i) : TS w wr nd n c A d' := ⟨h.bel, h.box, h.own.congr e⟩
end

theorem made_zero (nd : Nat) : (madeCells #[Value.int .i64 0] nd).toList = rowOf nd (fun _ => 0) := by
  rw [toList_madeCells_one]
  refine List.ext_getElem? fun j => ?_
  by_cases hj : j < nd
  · rw [rowOf_get hj]; simp [hj]
  · rw [List.getElem?_eq_none (by simp; omega), List.getElem?_eq_none (by rw [rowOf_length]; omega)]

theorem infoIntT : (Tryz.prog.info? 3).map (fun i => (i.zero, i.size, i.bytes)) = some (some (.int .i64 0), 1, 8) := by kernel_rfl

def fillF (k : Nat) : Nat → Int := fun i => if i < k then -1 else 0

/-- The rows of one street's ways, beside the times. -/
structure WS (wr : World) (p : Nat) (x0 x1 x2 : Int) : Prop where
  st : Row wr p [.int .i64 x0, .int .i64 x1, .int .i64 x2]
  w0 : Row wr (p + 1) [.int .i64 x0, .int .i64 x1]
  w1 : Row wr (p + 1 + 1) [.int .i64 x1, .int .i64 x0]
  ws : Row wr (p + 1 + 1 + 1) [.slice (some ⟨p + 1, 0, none⟩) 2 2, .slice (some ⟨p + 1 + 1, 0, none⟩) 2 2]
theorem WS.far {wr : World} {p : Nat} {x0 x1 x2 : Int} (h : WS wr p x0 x1 x2) {q : Addr} (hq : q.block < p) (u : Value) : WS (wr.setCell q u) p x0 x1 x2 :=
  ⟨h.st.far (by omega) _, h.w0.far (by omega) _, h.w1.far (by omega) _, h.ws.far (by omega) _⟩
theorem WS.drew {wr : World} {p : Nat} {x0 x1 x2 : Int} (h : WS wr p x0 x1 x2) : WS wr.drew p x0 x1 x2 := ⟨h.st.drew, h.w0.drew, h.w1.drew, h.ws.drew⟩
theorem WS.drewN {wr : World} {p : Nat} {x0 x1 x2 : Int} (h : WS wr p x0 x1 x2) (n : Nat) : WS (wr.drewN n) p x0 x1 x2 :=
  ⟨h.st.below (below_drewN (Below.refl _ _) n), h.w0.below (below_drewN (Below.refl _ _) n), h.w1.below (below_drewN (Below.refl _ _) n), h.ws.below (below_drewN (Below.refl _ _) n)⟩
theorem WS.new (wr : World) (x0 x1 x2 : Int) (t0 t1 t2 t3 : TypeId) :
    WS ((((wr.alloc (.cells #[.int .i64 x0, .int .i64 x1, .int .i64 x2] t0)).alloc (.cells #[.int .i64 x0, .int .i64 x1] t1)).alloc (.cells #[.int .i64 x1, .int .i64 x0] t2)).alloc (.cells #[.slice (some ⟨wr.heap.size + 1, 0, none⟩) 2 2, .slice (some ⟨wr.heap.size + 1 + 1, 0, none⟩) 2 2] t3)) wr.heap.size x0 x1 x2 := by
  refine ⟨(((Row.new _ _ _).alloc _).alloc _).alloc _, ?_, ?_, ?_⟩
  · have := ((Row.new (wr.alloc (.cells #[.int .i64 x0, .int .i64 x1, .int .i64 x2] t0)) #[.int .i64 x0, .int .i64 x1] t1).alloc (.cells #[.int .i64 x1, .int .i64 x0] t2)).alloc (.cells #[.slice (some ⟨wr.heap.size + 1, 0, none⟩) 2 2, .slice (some ⟨wr.heap.size + 1 + 1, 0, none⟩) 2 2] t3)
    simpa using this
  · have := (Row.new ((wr.alloc (.cells #[.int .i64 x0, .int .i64 x1, .int .i64 x2] t0)).alloc (.cells #[.int .i64 x0, .int .i64 x1] t1)) #[.int .i64 x1, .int .i64 x0] t2).alloc (.cells #[.slice (some ⟨wr.heap.size + 1, 0, none⟩) 2 2, .slice (some ⟨wr.heap.size + 1 + 1, 0, none⟩) 2 2] t3)
    simpa using this
  · have := Row.new (((wr.alloc (.cells #[.int .i64 x0, .int .i64 x1, .int .i64 x2] t0)).alloc (.cells #[.int .i64 x0, .int .i64 x1] t1)).alloc (.cells #[.int .i64 x1, .int .i64 x0] t2)) #[.slice (some ⟨wr.heap.size + 1, 0, none⟩) 2 2, .slice (some ⟨wr.heap.size + 1 + 1, 0, none⟩) 2 2] t3
    simpa using this
theorem Row.at {w : World} {g : Nat} {xs : List Value} (h : Row w g xs) (j : Nat) {u : Value} (hu : xs[j]? = some u) : w.cell? ⟨g, j, none⟩ = some u := h.2.1 j u hu

set_option maxRecDepth 100000 in
set_option maxHeartbeats 4000000 in
theorem toTimes_any (nd n c x : Nat) (A : Option Addr) (l : List (Int × Int × Int)) (w : World) (hn : n = l.length) (hm : n ≤ 40) (hnd : nd ≤ 14) (hx : x < nd) (hf : Fits nd l) (hr : Rd w A (l.flatMap tcells)) :
    Calls Tryz.prog 43 #[.agg #[.int .i64 nd, .slice A n c], .int .i64 x] w fun e w' => e = .returned (.slice (some ⟨w.heap.size + 1, 0, none⟩) nd nd) ∧ OwnD w' w.heap.size (w.heap.size + 1) nd (timesF nd l x) ∧ Below w.heap.size w w' := by
  obtain ⟨i0, hi, hz0, hz1, hz2⟩ := info_parts infoIntT
  have hmk := fun W => run_makeN (P := Tryz.prog) 43 3 Tryz.underlying43 hi hz0 nd (by rw [hz2]; omega) (by omega) W
  rw [hz1] at hmk
  simp only [Value.cells, Nat.mul_one] at hmk
  have Hn := hide hn
  have Hr := hide hr
  have Hf := hide hf
  clear hn hr hf hi hz0 hz1 hz2
  go_enter Tryz.func43, Tryz.ntmps43
  go_wp2_with fail
  clear hmk
  go_loopw [19] (fun t wr => ∃ k : Nat, k ≤ nd ∧ t = .int .i64 k ∧ Hid (TS w wr nd n c A (fillF k))) (fun t _ => nd - (intOf t).toNat)
  case atStart =>
    refine ⟨0, by omega, rfl, hide ⟨?_, ?_, ?_⟩⟩
    · exact below_alloc (below_alloc (Below.refl _ _) _) _
    · exact (Row.new _ _ _).alloc _
    · have := OwnD.new (d := fillF 0) (w.alloc (.cells #[.int .i64 nd, .slice A n c] 26)) w.heap.size nd (by simp) (by unfold maxLen; omega) _ (made_zero nd)
      simpa using this
  case round =>
    obtain ⟨k, hk, rfl, HT⟩ := hrel
    by_cases hlt : k < nd
    · have f0 := HT.out.own.free k
      have c0 := HT.out.own.cell hlt
      go_wp2
      go_roundw
      case rel => exact ⟨k + 1, by omega, by go_num, hide ((HT.out.set hlt (-1)).congr (fun i hi => by simp only [fillF, upd]; by_cases h : i = k <;> by_cases h2 : i < k <;> simp [h, h2] <;> omega))⟩
      case measure => simp [intOf]; omega
    · have hkn : k = nd := by omega
      have f0 := HT.out.own.free x
      have c0 := HT.out.own.cell hx
      have HS : Hid (TS w (wr.setCell ⟨w.heap.size + 1, x, none⟩ (.int .i64 0)) nd n c A (start x)) := hide ((HT.out.set hx 0).congr (fun i hi => by simp only [fillF, upd, start]; by_cases h : i = x <;> simp [h, hkn]; omega))
      clear HT hkn
      obtain ⟨w1, hw1⟩ : ∃ w1, w1 = wr.setCell ⟨w.heap.size + 1, x, none⟩ (.int .i64 0) := ⟨_, rfl⟩
      rw [← hw1] at HS
      have HW1 := hide hw1
      clear hw1
      go_wp2
      rw [← HW1.out]
      clear HW1 f0 c0
      go_loopw [7] (fun t wr => ∃ K : Nat, K ≤ nd ∧ t = .int .i64 K ∧ Hid (TS w wr nd n c A (passN (edges l) K (start x)))) (fun t _ => nd - (intOf t).toNat)
      case atStart => exact ⟨0, by omega, rfl, HS⟩
      case round =>
        obtain ⟨K, hK, rfl, HT⟩ := hrel
        have b0 := HT.out.box.at 0 rfl
        have b1 := HT.out.box.at 1 rfl
        by_cases hKn : K < nd
        · obtain ⟨wo, rfl⟩ : ∃ wo : World, wo = wr := ⟨_, rfl⟩
          go_wp2_with fail
          clear b0 b1
          go_loopw [38] (fun t wr => ∃ (j : Nat) (D : Nat → Int), j ≤ n ∧ t = .int .i64 j ∧ Hid (D = passE (edges (l.take j)) (passN (edges l) K (start x))) ∧ Hid (TS w wr nd n c A D)) (fun t _ => n - (intOf t).toNat)
          case atStart => exact ⟨0, _, by omega, rfl, hide rfl, HT⟩
          case round =>
            obtain ⟨j, D, hj, rfl, HD, HT3⟩ := hrel
            clear HT
            by_cases hjn : j < n
            · obtain ⟨⟨x0, x1, x2⟩, hh⟩ : ∃ h, l[j]? = some h := ⟨_, List.getElem?_eq_getElem (by rw [← Hn.out]; exact hjn)⟩
              have hft := fitB_iff.1 (Hf.out _ (List.mem_of_getElem? hh))
              dsimp only at hft
              obtain ⟨u, rfl⟩ := Int.eq_ofNat_of_zero_le hft.1
              obtain ⟨v, rfl⟩ := Int.eq_ofNat_of_zero_le (show 0 ≤ x1 by omega)
              obtain ⟨b, off, rfl, hbs, c0, c1, c2⟩ := (Hr.out.below HT3.out.bel).get3 (fun _ => rfl) hh rfl
              have Hh := hide hh
              clear hh
              dsimp only at c0 c1 c2
              obtain ⟨w3o, rfl⟩ : ∃ w3o : World, w3o = wr := ⟨_, rfl⟩
              have hui : (u : Int) < (nd : Int) := by omega
              have hvi : (v : Int) < (nd : Int) := by omega
              have hu : u < nd := by omega
              have hv : v < nd := by omega
              have hs1 : 1 ≤ x2 := by omega
              have hs2 : x2 ≤ 3600 := by omega
              have hgp := HT3.out.own.lt.2
              clear hft
              go_wp2_with fail
              clear c0 c1 c2
              go_loopw [54] (fun t wr => ∃ (i : Nat) (D' : Nat → Int), i ≤ 2 ∧ t = .int .i64 i ∧ Hid (D' = passE ((edgeOf ((u : Int), (v : Int), x2)).take i) D) ∧ Hid (TS w wr nd n c (some ⟨b, off, none⟩) D') ∧ Hid (WS wr w3o.heap.size u v x2)) (fun t _ => 2 - (intOf t).toNat)
              case atStart => 
                refine ⟨0, _, by omega, rfl, hide rfl, hide ?_, hide (WS.new w3o u v x2 _ _ _ _)⟩
                exact (((HT3.out.alloc _).alloc _).alloc _).alloc _
              case round =>
                obtain ⟨i, D', hi, rfl, HD', HT4, HW⟩ := hrel
                obtain ⟨hd0, hd1⟩ : (-1 ≤ D' u ∧ D' u ≤ 5000000) ∧ (-1 ≤ D' v ∧ D' v ≤ 5000000) := by
                  have h := fun q => mid_bd (x := x) Hf.out (by have := Hn.out; omega) (show K ≤ 14 by omega) (F := edges (l.take j) ++ (edgeOf ((u : Int), (v : Int), x2)).take i) (fun e he => by
                    rcases List.mem_append.1 he with he | he
                    · exact edges_take_sub he
                    · exact edgeOf_sub Hh.out (List.mem_of_mem_take he)) (by rw [List.length_append, length_edges, List.length_take]; simp [edgeOf]; omega) q
                  simp only [passE_append, ← HD.out, ← HD'.out] at h
                  exact ⟨h u, h v⟩
                have tu := HT4.out.own.cell hu
                have tv := HT4.out.own.cell hv
                have s2 := HW.out.st.at 2 rfl
                by_cases hi2 : i < 2
                · obtain ⟨w4o, rfl⟩ : ∃ w4o : World, w4o = wr := ⟨_, rfl⟩
                  have hcs : i = 0 ∨ i = 1 := by omega
                  rcases hcs with rfl | rfl
                  · have q0 := HW.out.ws.at 0 rfl
                    have q1 := HW.out.w0.at 0 rfl
                    have q2 := HW.out.w0.at 1 rfl
                    have fr := HT4.out.own.free v
                    have HS0 : Hid (∀ W, TS w W nd n c (some ⟨b, off, none⟩) D' → ¬ (0 ≤ D' u ∧ (D' v < 0 ∨ D' u + x2 < D' v)) → TS w W nd n c (some ⟨b, off, none⟩) (passE ((edgeOf ((u : Int), (v : Int), x2)).take 1) D)) := hide (fun W hW (hq : quietE D' (u, v, x2)) => by
                      have : passE ((edgeOf ((u : Int), (v : Int), x2)).take 1) D = stepE D' (u, v, x2) := by rw [HD'.out]; rfl
                      rw [this, stepE_quiet hq]; exact hW)
                    have HS1 : Hid (∀ W, TS w W nd n c (some ⟨b, off, none⟩) D' → 0 ≤ D' u → (D' v < 0 ∨ D' u + x2 < D' v) → TS w (W.setCell ⟨w.heap.size + 1, v, none⟩ (.int .i64 (D' u + x2))) nd n c (some ⟨b, off, none⟩) (passE ((edgeOf ((u : Int), (v : Int), x2)).take 1) D)) := hide (fun W hW h1 h2 => by
                      have : passE ((edgeOf ((u : Int), (v : Int), x2)).take 1) D = stepE D' (u, v, x2) := by rw [HD'.out]; rfl
                      rw [this]
                      have e : stepE D' (u, v, x2) = upd D' v (D' u + x2) := by simp only [stepE, way]; rw [if_pos ⟨h1, h2⟩]
                      rw [e]
                      exact hW.set (by omega) _)
                    clear HD' HD
                    generalize D' u = du at *
                    generalize D' v = dv at *
                    by_cases h1 : 0 ≤ du
                    · by_cases h2 : dv < 0
                      · have g1 : decide (0 ≤ du) = true := by simpa using h1
                        have g2 : decide (dv < 0) = true := by simpa using h2
                        go_wp2_with fail
                        go_quiet (fail)
                        go_wp2_with fail
                        go_quiet (fail)
                        go_wp2
                        go_roundw
                        case rel => exact ⟨1, _, by omega, by go_num, hide rfl, hide (HS1.out _ (HT4.out.below (below_drewN (Below.refl _ _) _)) h1 (.inl h2)), hide (WS.far (HW.out.drewN _) hgp _)⟩
                        case measure => simp [intOf]
                      · have g1 : decide (0 ≤ du) = true := by simpa using h1
                        have g2 : decide (dv < 0) = false := by simpa using h2
                        by_cases h3 : du + x2 < dv
                        · have g3 : decide (du + x2 < dv) = true := by simpa using h3
                          go_wp2_with fail
                          go_quiet (fail)
                          go_wp2_with fail
                          go_quiet (fail)
                          go_wp2
                          go_roundw
                          case rel => exact ⟨1, _, by omega, by go_num, hide rfl, hide (HS1.out _ (HT4.out.below (below_drewN (Below.refl _ _) _)) h1 (.inr h3)), hide (WS.far (HW.out.drewN _) hgp _)⟩
                          case measure => simp [intOf]
                        · have g3 : decide (du + x2 < dv) = false := by simpa using h3
                          go_wp2_with fail
                          go_quiet (fail)
                          go_wp2_with fail
                          go_quiet (fail)
                          go_wp2
                          go_roundw
                          case rel => exact ⟨1, _, by omega, by go_num, hide rfl, hide (HS0.out _ (HT4.out.below (below_drewN (Below.refl _ _) _)) (by omega)), hide (HW.out.drewN _)⟩
                          case measure => simp [intOf]
                    · have g1 : decide (0 ≤ du) = false := by simpa using h1
                      go_wp2_with fail
                      go_quiet (fail)
                      go_wp2_with fail
                      go_quiet (fail)
                      go_wp2
                      go_roundw
                      case rel => exact ⟨1, _, by omega, by go_num, hide rfl, hide (HS0.out _ (HT4.out.below (below_drewN (Below.refl _ _) _)) (by omega)), hide (HW.out.drewN _)⟩
                      case measure => simp [intOf]
                  · have q0 := HW.out.ws.at 1 rfl
                    have q1 := HW.out.w1.at 0 rfl
                    have q2 := HW.out.w1.at 1 rfl
                    have fr := HT4.out.own.free u
                    have HS0 : Hid (∀ W, TS w W nd n c (some ⟨b, off, none⟩) D' → ¬ (0 ≤ D' v ∧ (D' u < 0 ∨ D' v + x2 < D' u)) → TS w W nd n c (some ⟨b, off, none⟩) (passE ((edgeOf ((u : Int), (v : Int), x2)).take 2) D)) := hide (fun W hW (hq : quietE D' (v, u, x2)) => by
                      have : passE ((edgeOf ((u : Int), (v : Int), x2)).take 2) D = stepE D' (v, u, x2) := by rw [HD'.out]; rfl
                      rw [this, stepE_quiet hq]; exact hW)
                    have HS1 : Hid (∀ W, TS w W nd n c (some ⟨b, off, none⟩) D' → 0 ≤ D' v → (D' u < 0 ∨ D' v + x2 < D' u) → TS w (W.setCell ⟨w.heap.size + 1, u, none⟩ (.int .i64 (D' v + x2))) nd n c (some ⟨b, off, none⟩) (passE ((edgeOf ((u : Int), (v : Int), x2)).take 2) D)) := hide (fun W hW h1 h2 => by
                      have : passE ((edgeOf ((u : Int), (v : Int), x2)).take 2) D = stepE D' (v, u, x2) := by rw [HD'.out]; rfl
                      rw [this]
                      have e : stepE D' (v, u, x2) = upd D' u (D' v + x2) := by simp only [stepE, way]; rw [if_pos ⟨h1, h2⟩]
                      rw [e]
                      exact hW.set (by omega) _)
                    clear HD' HD
                    generalize D' u = du at *
                    generalize D' v = dv at *
                    by_cases h1 : 0 ≤ dv
                    · by_cases h2 : du < 0
                      · have g1 : decide (0 ≤ dv) = true := by simpa using h1
                        have g2 : decide (du < 0) = true := by simpa using h2
                        go_wp2_with fail
                        go_quiet (fail)
                        go_wp2_with fail
                        go_quiet (fail)
                        go_wp2
                        go_roundw
                        case rel => exact ⟨2, _, by omega, by go_num, hide rfl, hide (HS1.out _ (HT4.out.below (below_drewN (Below.refl _ _) _)) h1 (.inl h2)), hide (WS.far (HW.out.drewN _) hgp _)⟩
                        case measure => simp [intOf]
                      · have g1 : decide (0 ≤ dv) = true := by simpa using h1
                        have g2 : decide (du < 0) = false := by simpa using h2
                        by_cases h3 : dv + x2 < du
                        · have g3 : decide (dv + x2 < du) = true := by simpa using h3
                          go_wp2_with fail
                          go_quiet (fail)
                          go_wp2_with fail
                          go_quiet (fail)
                          go_wp2
                          go_roundw
                          case rel => exact ⟨2, _, by omega, by go_num, hide rfl, hide (HS1.out _ (HT4.out.below (below_drewN (Below.refl _ _) _)) h1 (.inr h3)), hide (WS.far (HW.out.drewN _) hgp _)⟩
                          case measure => simp [intOf]
                        · have g3 : decide (dv + x2 < du) = false := by simpa using h3
                          go_wp2_with fail
                          go_quiet (fail)
                          go_wp2_with fail
                          go_quiet (fail)
                          go_wp2
                          go_roundw
                          case rel => exact ⟨2, _, by omega, by go_num, hide rfl, hide (HS0.out _ (HT4.out.below (below_drewN (Below.refl _ _) _)) (by omega)), hide (HW.out.drewN _)⟩
                          case measure => simp [intOf]
                    · have g1 : decide (0 ≤ dv) = false := by simpa using h1
                      go_wp2_with fail
                      go_quiet (fail)
                      go_wp2_with fail
                      go_quiet (fail)
                      go_wp2
                      go_roundw
                      case rel => exact ⟨2, _, by omega, by go_num, hide rfl, hide (HS0.out _ (HT4.out.below (below_drewN (Below.refl _ _) _)) (by omega)), hide (HW.out.drewN _)⟩
                      case measure => simp [intOf]
                · have hi2' : i = 2 := by omega
                  subst hi2'
                  have HS2 : Hid (TS w wr nd n c (some ⟨b, off, none⟩) (passE (edges (l.take (j + 1))) (passN (edges l) K (start x)))) := hide (by
                    rw [edges_take_succ Hh.out, passE_append, ← HD.out]
                    have := HT4.out
                    rw [HD'.out] at this
                    exact this)
                  clear HD HD' hd0 hd1 tu tv s2
                  go_wp2
                  go_roundw
                  case rel => exact ⟨j + 1, _, by omega, by go_num, hide rfl, HS2⟩
                  case measure => simp [intOf]; omega
            · have hjn' : j = n := by omega
              have HS2 : Hid (TS w wr nd n c A (passN (edges l) (K + 1) (start x))) := hide (by
                have h1 : l.take j = l := List.take_of_length_le (by have := Hn.out; omega)
                have := HT3.out
                rw [HD.out, h1] at this
                exact this)
              clear HD hjn'
              go_wp2
              go_roundw
              case rel => exact ⟨K + 1, by omega, by go_num, HS2⟩
              case measure => simp [intOf]; omega
        · have hKn' : K = nd := by omega
          go_wp2
          go_ret
          refine ⟨rfl, ?_, HT.out.bel⟩
          have := HT.out.own
          rw [hKn'] at this
          exact this
end Go.Proofs.YtbhnaakknfienaaGreatDoor
