/- Draws: a text with one or two edits. -/
import Derived.Test.YtpkhdmhfkmajcaaDoorDrawA
import Derived.BigRegion
import Derived.Deep.LoopGhost
import Derived.Laws.IdiomStrings
namespace Go.Proofs.YtpkhdmhfkmajcaaDoor
open Go.RowKit
set_option linter.unusedVariables false
set_option linter.unusedSimpArgs false

set_option maxRecDepth 100000 in
set_option maxHeartbeats 8000000 in
theorem spoilt_any (d : Drw) (N : Nat) (t wth : ByteArray) (w : World) (hd : d.ok) (h : d.st N w) (hN : N ≤ 100000000000) (ht : t.size ≤ 100000) (h0 : 1 ≤ wth.size) (h1 : wth.size ≤ 1000) :
    Calls Tryd.prog 33 #[.pointer (some ⟨d.g, 0, none⟩), .string t, .string wth] w fun e w' => (∃ v, e = .returned (.string v) ∧ v.size ≤ t.size + 2) ∧ d.st (N + 20) w' ∧ w.grownBy w' (some d.g) := by
  have H := hide h
  clear h
  go_enter Tryd.func33, Tryd.ntmps33
  go_wp2_with fail
  refine (pick_any d N 2 w hd H.out (by omega) (by omega)).mono ?_
  rintro e w1 ⟨⟨x, rfl, hx0, hx1, hx2⟩, hs, hg⟩
  have HS1 := hide hs
  have HG1 := hide hg
  clear hs hg
  obtain ⟨n0, rfl⟩ := Int.eq_ofNat_of_zero_le hx0
  have hn0 : n0 ≤ 1 := by omega
  clear hx0 hx1 hx2
  have hn1 : (n0 : Int) ≤ 1 := by omega
  go_wp2_with fail
  clear hn1
  go_loopg [7, 1] 2 (fun g s7 s1 wr => ∃ (n : Nat) (v : ByteArray), s7 = .int .i64 (n : Int) ∧ s1 = .string v ∧ n ≤ 2 ∧ v.size + n ≤ t.size + 2 ∧ Hid (n ≤ g) ∧ Hid (d.st (N + 2 + 6 * (2 - n)) wr) ∧ Hid (w.grownBy wr (some d.g)))
  case atStart => exact ⟨1 + n0, t, by go_num, rfl, by omega, by omega, hide (by omega), hide (HS1.out.more (by omega)), HG1⟩
  case round =>
    obtain ⟨n, v, rfl, rfl, hn, hv, HGN, HS, HG⟩ := hrel
    by_cases hlt : 0 < n
    · have k1 : (0 : Int) < (n : Int) := by omega
      by_cases hz : 0 < v.size
      · have k2 : (0 : Int) < (v.size : Int) := by omega
        go_wp2_with fail
        refine (pick_any d (N + 2 + 6 * (2 - n)) v.size wr hd HS.out (by omega) (by omega)).mono ?_
        rintro e x1 ⟨⟨i, rfl, hi0, hi1, hi2⟩, hs, hg⟩
        obtain ⟨i, rfl⟩ := Int.eq_ofNat_of_zero_le hi0
        have hi : i < v.size := by omega
        have HS2 := hide hs
        have HG2 := hide (grown_trans HG.out hg)
        clear hs hg hi0 hi1 hi2
        go_wp2_with fail
        refine (pick_any d (N + 2 + 6 * (2 - n) + 2) wth.size x1 hd HS2.out (by omega) (by omega)).mono ?_
        rintro e x2 ⟨⟨j, rfl, hj0, hj1, hj2⟩, hs, hg⟩
        obtain ⟨j, rfl⟩ := Int.eq_ofNat_of_zero_le hj0
        have hj : j < wth.size := by omega
        have hji : (j : Int) < (wth.size : Int) := by omega
        have HS3 := hide hs
        have HG3 := hide (grown_trans HG2.out hg)
        clear hs hg hj0 hj1 hj2
        have hcv := run_convert_bytes_back (P := Tryd.prog) (x2.alloc (.cells #[.int .u8 (wth[j].toNat : Int)] 5)) 22 9 5 ⟨x2.heap.size, 0, none⟩ 1 [wth[j]] (by kernel_rfl) (by kernel_rfl) (by kernel_rfl) (fun q hq => by
          have hq0 : q = 0 := by simpa using hq
          subst hq0
          rw [Addr.add_lit]
          exact (Row.new x2 #[.int .u8 (wth[j].toNat : Int)] 5).2.1 0 _ rfl)
        simp only [List.length_singleton] at hcv
        have HS4 := hide (HS3.out.alloc (.cells #[.int .u8 (wth[j].toNat : Int)] 5))
        have HG4 := hide (grown_new HG3.out (.cells #[.int .u8 (wth[j].toNat : Int)] 5))
        go_wp2_with fail
        refine (pick_any d (N + 2 + 6 * (2 - n) + 4) 3 _ hd HS4.out (by omega) (by omega)).mono ?_
        rintro e x3 ⟨⟨q, rfl, hq0, hq1, hq2⟩, hs, hg⟩
        have HS5 := hide (hs.more (show N + 2 + 6 * (2 - n) + 4 + 2 ≤ N + 2 + 6 * (2 - (n - 1)) by omega))
        have HG5 := hide (grown_trans HG4.out hg)
        clear hs hg hcv HS4 HG4 HS3 HG3 HS2 HG2
        have hcz : (⟨#[wth[j]]⟩ : ByteArray).size = 1 := rfl
        generalize (⟨#[wth[j]]⟩ : ByteArray) = wj at *
        have p1 : ((i : Int) + 1).toNat = i + 1 := by omega
        have p2 : (0 : Int) ≤ (i : Int) + 1 := by omega
        have p3 : (i : Int) ≤ (v.size : Int) := by omega
        have p4 : (i : Int) + 1 ≤ (v.size : Int) := by omega
        have p5 : (v.extract 0 i).size = i := by rw [ByteArray.size_extract]; omega
        have p6 : (v.extract i v.size).size = v.size - i := by rw [ByteArray.size_extract]; omega
        have p7 : (v.extract (i + 1) v.size).size = v.size - (i + 1) := by rw [ByteArray.size_extract]; omega
        obtain ⟨n', rfl⟩ : ∃ n', n = n' + 1 := ⟨n - 1, by omega⟩
        have HN := hide (show IntKind.i64.wrap (((n' + 1 : Nat) : Int) - 1) = (n' : Int) by rw [IntKind.wrap_i64]; omega)
        rw [show n' + 1 - 1 = n' by omega] at HS5
        have hsub : (((n' + 1 : Nat) : Int) - 1) = (n' : Int) := by omega
        have h3 : q = 0 ∨ q = 1 ∨ q = 2 := by omega
        rcases h3 with rfl | rfl | rfl
        · skip
          clear hq0 hq1 hq2
          go_wp2_with fail
          go_region
          go_wp2
          go_roundg (gk - 1)
          case rel => exact ⟨n', _, by rw [← hsub], rfl, by omega, by simp only [ByteArray.size_append, p5, p6, p7, hcz]; omega, hide (by have := HGN.out; omega), hide HS5.out.drew, hide (grown_trans HG5.out (grown_of_below (Below.refl _ _).drew _))⟩
          case measure => have := HGN.out; omega
        · skip
          clear hq0 hq1 hq2
          go_wp2_with fail
          go_region
          go_wp2
          go_roundg (gk - 1)
          case rel => exact ⟨n', _, by rw [← hsub], rfl, by omega, by simp only [ByteArray.size_append, p5, p6, p7, hcz]; omega, hide (by have := HGN.out; omega), hide HS5.out.drew, hide (grown_trans HG5.out (grown_of_below (Below.refl _ _).drew _))⟩
          case measure => have := HGN.out; omega
        · skip
          clear hq0 hq1 hq2
          go_wp2_with fail
          go_region
          go_wp2
          go_roundg (gk - 1)
          case rel => exact ⟨n', _, by rw [← hsub], rfl, by omega, by simp only [ByteArray.size_append, p5, p6, p7, hcz]; omega, hide (by have := HGN.out; omega), hide HS5.out.drew, hide (grown_trans HG5.out (grown_of_below (Below.refl _ _).drew _))⟩
          case measure => have := HGN.out; omega
      · have k2 : ¬ (0 : Int) < (v.size : Int) := by omega
        go_wp2
        go_ret
        exact ⟨⟨v, rfl, by omega⟩, HS.out.more (by omega), HG.out⟩
    · have k1 : ¬ (0 : Int) < (n : Int) := by omega
      go_wp2
      go_ret
      exact ⟨⟨v, rfl, by omega⟩, HS.out.more (by omega), HG.out⟩

theorem of_lit (d : Drw) (N : Nat) (l : List ByteArray) (w : World) (b : Nat) (hb : w.heap.size = b) (hd : d.ok) (h : d.st N w) (hN : N ≤ 1000000000000) (h0 : 0 < l.length) (hm : l.length ≤ 1000) :
    Calls Tryd.prog 32 #[.pointer (some ⟨d.g, 0, none⟩), .slice (some ⟨b, 0, none⟩) l.length l.length] (w.alloc (.cells (l.map Value.string).toArray 9)) fun e w' => (∃ v, e = .returned (.string v) ∧ v ∈ l) ∧ d.st (N + 2) w' ∧ w.grownBy w' (some d.g) := by
  subst hb
  have hR := (Row.new w (l.map Value.string).toArray 9).rd
  refine (of_any d N _ l.length l.length l _ hd (h.alloc _) hN rfl h0 hm (by simpa using hR) (fun b o sp e => by injection e with e; injection e with e; have := h.lt; omega)).mono ?_
  rintro e w' ⟨hv, hs, hg⟩
  exact ⟨hv, hs, grown_trans (grown_of_below ((Below.refl _ _).alloc (Nat.le_refl _) _) _) hg⟩
end Go.Proofs.YtpkhdmhfkmajcaaDoor
