/- Travel times: what the program's loops hand back. -/
import Derived.Test.YtbhnaakknfienaaGreatDoorTownS
import Derived.Deep.LoopGhost
namespace Go.Proofs.YtbhnaakknfienaaGreatDoor
open Go.RowKit
set_option linter.unusedVariables false

structure TI (w wr : World) (nd : Nat) (d : Nat → Int) : Prop where
  bel : Below w.heap.size w wr
  own : OwnD wr w.heap.size (w.heap.size + 1) nd d
section
variable {w wr w' : World} {nd : Nat} {d d' : Nat → Int}
theorem TI.set (h : TI w wr nd d) {i : Nat} (hi : i < nd) (x : Int) : TI w (wr.setCell ⟨w.heap.size + 1, i, none⟩ (.int .i64 x)) nd (upd d i x) :=
  ⟨h.bel.setCell (by simp) _, h.own.set hi x⟩
theorem TI.below (h : TI w wr nd d) (hb : Below wr.heap.size wr w') : TI w w' nd d := ⟨below_step h.bel hb, h.own.below hb⟩
theorem TI.alloc (h : TI w wr nd d) (o : Obj) : TI w (wr.alloc o) nd d := h.below ((Below.refl _ _).alloc (Nat.le_refl _) _)
theorem TI.congr (h : TI w wr nd d) (e : ∀ i, i < nd → d i = d' i) : TI w wr nd d' := ⟨h.bel, h.own.congr e⟩
end
/-- The rows of one street's ways. -/
structure WI (wr : World) (p : Nat) (x0 x1 x2 : Int) : Prop where
  st : Row wr p [.int .i64 x0, .int .i64 x1, .int .i64 x2]
  ws : Row wr (p + 1) [.int .i64 x0, .int .i64 x1, .int .i64 x1, .int .i64 x0]
theorem WI.far {wr : World} {p : Nat} {x0 x1 x2 : Int} (h : WI wr p x0 x1 x2) {q : Addr} (hq : q.block < p) (u : Value) : WI (wr.setCell q u) p x0 x1 x2 := ⟨h.st.far (by omega) _, h.ws.far (by omega) _⟩
theorem WI.below {wr w' : World} {p : Nat} {x0 x1 x2 : Int} (h : WI wr p x0 x1 x2) (hb : Below wr.heap.size wr w') : WI w' p x0 x1 x2 := ⟨h.st.below hb, h.ws.below hb⟩
theorem WI.new (wr : World) (x0 x1 x2 : Int) (t0 t1 : TypeId) :
    WI ((wr.alloc (.cells #[.int .i64 x0, .int .i64 x1, .int .i64 x2] t0)).alloc (.cells #[.int .i64 x0, .int .i64 x1, .int .i64 x1, .int .i64 x0] t1)) wr.heap.size x0 x1 x2 := by
  refine ⟨(Row.new _ _ _).alloc _, ?_⟩
  have := Row.new (wr.alloc (.cells #[.int .i64 x0, .int .i64 x1, .int .i64 x2] t0)) #[.int .i64 x0, .int .i64 x1, .int .i64 x1, .int .i64 x0] t1
  simpa using this

set_option maxRecDepth 100000 in
set_option maxHeartbeats 4000000 in
theorem times_any (b0 nd n c x : Nat) (A : Option Addr) (l : List (Int × Int × Int)) (w : World) (hn : n = l.length) (hm : n ≤ 40) (hnd : nd ≤ 14) (hx : x < nd) (hf : Fits nd l) (hr : Rd w A (l.flatMap tcells)) (hc0 : w.cell? ⟨b0, 0, none⟩ = some (.int .i64 (nd : Int))) (hc1 : w.cell? ⟨b0, 1, none⟩ = some (.slice A n c)) :
    Calls Tryz.prog 42 #[.pointer (some ⟨b0, 0, none⟩), .int .i64 x] w fun e w' => e = .returned (.slice (some ⟨w.heap.size + 1, 0, none⟩) nd nd) ∧ OwnD w' w.heap.size (w.heap.size + 1) nd (timesF nd l x) ∧ Below w.heap.size w w' := by
  have Hn := hide hn
  have Hr := hide hr
  have Hf := hide hf
  have HC0 := hide hc0
  have HC1 := hide hc1
  have hb0 := World.block_lt_of_cell? w _ hc0
  dsimp only at hb0
  have hnd1 : 1 ≤ nd := by omega
  clear hn hr hf
  go_enter Tryz.func42, Tryz.ntmps42
  go_wp2_with fail
  clear hc0 hc1
  refine (repeat_any w.heap.size nd _ hnd1 hnd ((Row.new w #[.int .i64 (-1)] 3).2.1 0 _ rfl)).mono ?_
  rintro e w1 ⟨rfl, ho, hb1⟩
  have HT0 : Hid (TI w w1 nd (fillF nd)) := hide ⟨below_step (below_alloc (Below.refl _ _) _) hb1, by
    have := own_le (B' := w.heap.size) ho (by simp)
    simpa [OwnD] using this⟩
  have f0 := HT0.out.own.free x
  have c0 := HT0.out.own.cell hx
  have HS : Hid (TI w (w1.setCell ⟨w.heap.size + 1, x, none⟩ (.int .i64 0)) nd (start x)) := hide ((HT0.out.set hx 0).congr (fun i hi => by simp only [fillF, upd, start]; by_cases h : i = x <;> simp [h]; omega))
  clear ho hb1 HT0
  obtain ⟨w2, hw2⟩ : ∃ w2, w2 = w1.setCell ⟨w.heap.size + 1, x, none⟩ (.int .i64 0) := ⟨_, rfl⟩
  rw [← hw2] at HS
  have HW2 := hide hw2
  clear hw2
  go_wp2
  rw [← HW2.out]
  clear HW2 f0 c0
  go_loopg [6] (nd + 1) (fun g t wr => ∃ (K : Nat) (f : Bool), K + g = nd + 1 ∧ t = .bool f ∧ Hid (f = true → K ≤ nd) ∧ Hid (f = false → passN (edges l) K (start x) = timesF nd l x) ∧ Hid (TI w wr nd (passN (edges l) K (start x))))
  case atStart => exact ⟨0, true, by omega, rfl, hide (fun _ => by omega), hide (fun h => by cases h), HS⟩
  case round =>
    obtain ⟨K, f, hK, rfl, HF1, HF2, HT⟩ := hrel
    cases f with
    | false =>
      go_wp2
      go_ret
      refine ⟨rfl, ?_, HT.out.bel⟩
      rw [← HF2.out trivial]
      exact HT.out.own
    | true =>
      have hKn : K ≤ nd := HF1.out rfl
      clear HF1 HF2 HS
      have q0 := cell_on HC0.out HT.out.bel
      have q1 := cell_on HC1.out HT.out.bel
      obtain ⟨wo, rfl⟩ : ∃ wo : World, wo = wr := ⟨_, rfl⟩
      go_wp2_with fail
      clear q0 q1
      go_loopw [6, 28] (fun fl t wr => ∃ (j : Nat) (D : Nat → Int) (f : Bool), j ≤ n ∧ fl = .bool f ∧ t = .int .i64 j ∧ Hid (Run nd K (passN (edges l) K (start x)) (edges (l.take j)) D f) ∧ Hid (TI w wr nd D)) (fun _ t _ => n - (intOf t).toNat)
      case atStart => exact ⟨0, _, false, by omega, rfl, rfl, hide (Run.init _ _ _), HT⟩
      case round =>
        obtain ⟨j, D, f, hj, rfl, rfl, HD, HT3⟩ := hrel
        clear HT
        by_cases hjn : j < n
        · obtain ⟨⟨x0, x1, x2⟩, hh⟩ : ∃ h, l[j]? = some h := ⟨_, List.getElem?_eq_getElem (by rw [← Hn.out]; exact hjn)⟩
          have hft := fitB_iff.1 (Hf.out _ (List.mem_of_getElem? hh))
          dsimp only at hft
          obtain ⟨u, rfl⟩ := Int.eq_ofNat_of_zero_le hft.1
          obtain ⟨v, rfl⟩ := Int.eq_ofNat_of_zero_le (show 0 ≤ x1 by omega)
          obtain ⟨b, off, rfl, hbs, c0, c1, c2⟩ := (Hr.out.below HT3.out.bel).get3 (fun _ => rfl) hh rfl
          have Hh := hide hh
          clear hh
          dsimp only at c0 c1 c2
          obtain ⟨w3o, rfl⟩ : ∃ w3o : World, w3o = wr := ⟨_, rfl⟩
          have hui : (u : Int) < (nd : Int) := by omega
          have hvi : (v : Int) < (nd : Int) := by omega
          have hu : u < nd := by omega
          have hv : v < nd := by omega
          have hs1 : 1 ≤ x2 := by omega
          have hs2 : x2 ≤ 3600 := by omega
          have hgp := HT3.out.own.lt.2
          clear hft
          go_wp2_with fail
          clear c0 c1 c2
          go_loopw [6, 44] (fun fl t wr => ∃ (i : Nat) (D' : Nat → Int) (f : Bool), i ≤ 2 ∧ fl = .bool f ∧ t = .int .i64 i ∧ Hid (Run nd K (passN (edges l) K (start x)) (edges (l.take j) ++ (edgeOf ((u : Int), (v : Int), x2)).take i) D' f) ∧ Hid (TI w wr nd D') ∧ Hid (WI wr w3o.heap.size u v x2)) (fun _ t _ => 2 - (intOf t).toNat)
          case atStart =>
            refine ⟨0, _, f, by omega, rfl, rfl, hide ?_, hide ((HT3.out.alloc _).alloc _), hide (WI.new w3o u v x2 _ _)⟩
            simpa using HD.out
          case round =>
            obtain ⟨i, D', f', hi, rfl, rfl, HD', HT4, HW⟩ := hrel
            obtain ⟨hd0, hd1⟩ : (-1 ≤ D' u ∧ D' u ≤ 5000000) ∧ (-1 ≤ D' v ∧ D' v ≤ 5000000) := by
              have h := fun q => mid_bd (x := x) Hf.out (by have := Hn.out; omega) (show K ≤ 14 by omega) (F := edges (l.take j) ++ (edgeOf ((u : Int), (v : Int), x2)).take i) (fun e he => by
                rcases List.mem_append.1 he with he | he
                · exact edges_take_sub he
                · exact edgeOf_sub Hh.out (List.mem_of_mem_take he)) (by rw [List.length_append, length_edges, List.length_take]; simp [edgeOf]; omega) q
              rw [← HD'.out.eq] at h
              exact ⟨h u, h v⟩
            have tu := HT4.out.own.cell hu
            have tv := HT4.out.own.cell hv
            have s2 := HW.out.st.at 2 rfl
            have hlts := HT4.out.own.lt.2
            have hltp := HW.out.st.1
            have hltq := HW.out.ws.1
            by_cases hi2 : i < 2
            · obtain ⟨w4o, rfl⟩ : ∃ w4o : World, w4o = wr := ⟨_, rfl⟩
              have hcs : i = 0 ∨ i = 1 := by omega
              rcases hcs with rfl | rfl
              · have q1 := HW.out.ws.at 0 rfl
                have q2 := HW.out.ws.at 1 rfl
                have fr := HT4.out.own.free v
                have hmem : ((u, v, x2) : Edge) ∈ edges l := edgeOf_sub Hh.out (by simp [edgeOf])
                have HS0 : Hid (¬ (0 ≤ D' u ∧ (D' v < 0 ∨ D' u + x2 < D' v)) → Hid (Run nd K (passN (edges l) K (start x)) (edges (l.take j) ++ (edgeOf ((u : Int), (v : Int), x2)).take 1) D' f')) := hide (fun (hq : quietE D' (u, v, x2)) => hide (by
                  have := HD'.out.quiet hq
                  rwa [List.append_assoc] at this))
                have HS1 : Hid (0 ≤ D' u → (D' v < 0 ∨ D' u + x2 < D' v) → Hid (Run nd K (passN (edges l) K (start x)) (edges (l.take j) ++ (edgeOf ((u : Int), (v : Int), x2)).take 1) (upd D' v (D' u + x2)) true)) := hide (fun h1 h2 => hide (by
                  have := HD'.out.fire Hf.out hx hKn hmem (fun hq => hq ⟨h1, h2⟩)
                  have e : stepE D' (u, v, x2) = upd D' v (D' u + x2) := by simp only [stepE, way]; rw [if_pos ⟨h1, h2⟩]
                  rw [e, List.append_assoc] at this
                  exact this))
                clear HD' HD hmem
                generalize D' u = du at *
                generalize D' v = dv at *
                by_cases h1 : 0 ≤ du
                · by_cases h2 : dv < 0
                  · have g1 : decide (0 ≤ du) = true := by simpa using h1
                    have g2 : decide (dv < 0) = true := by simpa using h2
                    go_wp2_with fail
                    go_quiet (fail)
                    go_wp2
                    go_roundw
                    case rel => exact ⟨1, _, true, by omega, rfl, by go_num, HS1.out h1 (.inl h2), hide ((HT4.out.below (below_drewN (below_alloc (Below.refl _ _) _) _)).set hv _), hide (WI.far (HW.out.below (below_drewN (below_alloc (Below.refl _ _) _) _)) hgp _)⟩
                    case measure => simp [intOf]
                  · have g1 : decide (0 ≤ du) = true := by simpa using h1
                    have g2 : decide (dv < 0) = false := by simpa using h2
                    by_cases h3 : du + x2 < dv
                    · have g3 : decide (du + x2 < dv) = true := by simpa using h3
                      go_wp2_with fail
                      go_quiet (fail)
                      go_wp2
                      go_roundw
                      case rel => exact ⟨1, _, true, by omega, rfl, by go_num, HS1.out h1 (.inr h3), hide ((HT4.out.below (below_drewN (below_alloc (Below.refl _ _) _) _)).set hv _), hide (WI.far (HW.out.below (below_drewN (below_alloc (Below.refl _ _) _) _)) hgp _)⟩
                      case measure => simp [intOf]
                    · have g3 : decide (du + x2 < dv) = false := by simpa using h3
                      go_wp2_with fail
                      go_quiet (fail)
                      go_wp2
                      go_roundw
                      case rel => exact ⟨1, _, f', by omega, rfl, by go_num, HS0.out (by omega), hide (HT4.out.below (below_drewN (below_alloc (Below.refl _ _) _) _)), hide (HW.out.below (below_drewN (below_alloc (Below.refl _ _) _) _))⟩
                      case measure => simp [intOf]
                · have g1 : decide (0 ≤ du) = false := by simpa using h1
                  go_wp2_with fail
                  go_quiet (fail)
                  go_wp2
                  go_roundw
                  case rel => exact ⟨1, _, f', by omega, rfl, by go_num, HS0.out (by omega), hide (HT4.out.below (below_drewN (below_alloc (Below.refl _ _) _) _)), hide (HW.out.below (below_drewN (below_alloc (Below.refl _ _) _) _))⟩
                  case measure => simp [intOf]
              · have q1 := HW.out.ws.at 2 rfl
                have q2 := HW.out.ws.at 3 rfl
                have fr := HT4.out.own.free u
                have hmem : ((v, u, x2) : Edge) ∈ edges l := edgeOf_sub Hh.out (by simp [edgeOf])
                have HS0 : Hid (¬ (0 ≤ D' v ∧ (D' u < 0 ∨ D' v + x2 < D' u)) → Hid (Run nd K (passN (edges l) K (start x)) (edges (l.take j) ++ (edgeOf ((u : Int), (v : Int), x2)).take 2) D' f')) := hide (fun (hq : quietE D' (v, u, x2)) => hide (by
                  have := HD'.out.quiet hq
                  rwa [List.append_assoc] at this))
                have HS1 : Hid (0 ≤ D' v → (D' u < 0 ∨ D' v + x2 < D' u) → Hid (Run nd K (passN (edges l) K (start x)) (edges (l.take j) ++ (edgeOf ((u : Int), (v : Int), x2)).take 2) (upd D' u (D' v + x2)) true)) := hide (fun h1 h2 => hide (by
                  have := HD'.out.fire Hf.out hx hKn hmem (fun hq => hq ⟨h1, h2⟩)
                  have e : stepE D' (v, u, x2) = upd D' u (D' v + x2) := by simp only [stepE, way]; rw [if_pos ⟨h1, h2⟩]
                  rw [e, List.append_assoc] at this
                  exact this))
                clear HD' HD hmem
                generalize D' u = du at *
                generalize D' v = dv at *
                by_cases h1 : 0 ≤ dv
                · by_cases h2 : du < 0
                  · have g1 : decide (0 ≤ dv) = true := by simpa using h1
                    have g2 : decide (du < 0) = true := by simpa using h2
                    go_wp2_with fail
                    go_quiet (fail)
                    go_wp2
                    go_roundw
                    case rel => exact ⟨2, _, true, by omega, rfl, by go_num, HS1.out h1 (.inl h2), hide ((HT4.out.below (below_drewN (below_alloc (Below.refl _ _) _) _)).set hu _), hide (WI.far (HW.out.below (below_drewN (below_alloc (Below.refl _ _) _) _)) hgp _)⟩
                    case measure => simp [intOf]
                  · have g1 : decide (0 ≤ dv) = true := by simpa using h1
                    have g2 : decide (du < 0) = false := by simpa using h2
                    by_cases h3 : dv + x2 < du
                    · have g3 : decide (dv + x2 < du) = true := by simpa using h3
                      go_wp2_with fail
                      go_quiet (fail)
                      go_wp2
                      go_roundw
                      case rel => exact ⟨2, _, true, by omega, rfl, by go_num, HS1.out h1 (.inr h3), hide ((HT4.out.below (below_drewN (below_alloc (Below.refl _ _) _) _)).set hu _), hide (WI.far (HW.out.below (below_drewN (below_alloc (Below.refl _ _) _) _)) hgp _)⟩
                      case measure => simp [intOf]
                    · have g3 : decide (dv + x2 < du) = false := by simpa using h3
                      go_wp2_with fail
                      go_quiet (fail)
                      go_wp2
                      go_roundw
                      case rel => exact ⟨2, _, f', by omega, rfl, by go_num, HS0.out (by omega), hide (HT4.out.below (below_drewN (below_alloc (Below.refl _ _) _) _)), hide (HW.out.below (below_drewN (below_alloc (Below.refl _ _) _) _))⟩
                      case measure => simp [intOf]
                · have g1 : decide (0 ≤ dv) = false := by simpa using h1
                  go_wp2_with fail
                  go_quiet (fail)
                  go_wp2
                  go_roundw
                  case rel => exact ⟨2, _, f', by omega, rfl, by go_num, HS0.out (by omega), hide (HT4.out.below (below_drewN (below_alloc (Below.refl _ _) _) _)), hide (HW.out.below (below_drewN (below_alloc (Below.refl _ _) _) _))⟩
                  case measure => simp [intOf]
            · have hi2' : i = 2 := by omega
              subst hi2'
              have HS2 : Hid (Run nd K (passN (edges l) K (start x)) (edges (l.take (j + 1))) D' f') := hide (by
                rw [edges_take_succ Hh.out]
                exact HD'.out)
              clear HD HD' hd0 hd1 tu tv s2
              go_wp2
              go_roundw
              case rel => exact ⟨j + 1, _, f', by omega, rfl, by go_num, HS2, HT4⟩
              case measure => simp [intOf]; omega
        · have hjn' : j = n := by omega
          have HS2 : Hid (Run nd K (passN (edges l) K (start x)) (edges l) D f) := hide (by
            have h1 : l.take j = l := List.take_of_length_le (by have := Hn.out; omega)
            have := HD.out
            rwa [h1] at this)
          have HE : Hid (D = passN (edges l) (K + 1) (start x)) := hide HS2.out.eq
          have HR1 : Hid (f = true → K + 1 ≤ nd) := hide HS2.out.fired
          have HR2 : Hid (f = false → passN (edges l) (K + 1) (start x) = timesF nd l x) := hide (fun hf => by
            have := HS2.out
            rw [hf] at this
            rw [← HE.out]
            exact this.done Hf.out hx)
          have HT5 : Hid (TI w wr nd (passN (edges l) (K + 1) (start x))) := hide (by rw [← HE.out]; exact HT3.out)
          clear HD HE HT3 HS2 hjn'
          go_wp2
          go_roundg (nd - K)
          case rel => exact ⟨K + 1, f, by omega, rfl, HR1, HR2, HT5⟩
          case measure => omega
end Go.Proofs.YtbhnaakknfienaaGreatDoor
