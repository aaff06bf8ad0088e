/- Lines of hoses: what each call over a slice of hoses returns. -/
import Derived.Test.YtmoelgbbgepckaaDoorHoseD
import Derived.Test.YtmoelgbbgepckaaDoorMem
namespace Go.Proofs.YtmoelgbbgepckaaDoor
open Go.RowKit
set_option linter.unusedVariables false

def hcells (h : Int × Int) : List Value := [.int .i64 h.1, .int .i64 h.2]
def hosesB (hs : List (Int × Int)) : Bool := hs.all (fun h => hoseB h.1 h.2)
def lineB (hs : List (Int × Int)) : Bool := hosesB hs && inB hs.length 1 12
def lineSum : List (Int × Int) → Int → Int
  | [], _ => 0
  | h :: t, f => lossOf h.1 h.2 f + lineSum t f

theorem lineSum_append (f : Int) (b : List (Int × Int)) : ∀ a, lineSum (a ++ b) f = lineSum a f + lineSum b f
  | [] => by simp [lineSum]
  | h :: a => by simp [lineSum, lineSum_append f b a]; omega
theorem lineSum_succ {hs : List (Int × Int)} {k : Nat} {h : Int × Int} (hh : hs[k]? = some h) (f : Int) : lineSum (hs.take (k + 1)) f = lineSum (hs.take k) f + lossOf h.1 h.2 f := by
  rw [List.take_add_one, hh, lineSum_append]
  simp [lineSum]
theorem hoseB_len {x : Int × Int} (h : hoseB x.1 x.2 = true) : 0 ≤ x.2 ∧ x.2 ≤ 5000 := by
  simp only [hoseB, Bool.and_eq_true, inB_iff] at h
  omega
theorem lineSum_bd {f : Int} (h0 : 0 ≤ f) (h1 : f ≤ 3000) : ∀ {hs : List (Int × Int)}, hosesB hs = true → 0 ≤ lineSum hs f ∧ lineSum hs f ≤ 2250001 * hs.length
  | [], _ => by simp [lineSum]
  | h :: hs, hh => by
    simp only [hosesB, List.all_cons, Bool.and_eq_true] at hh
    have a := hoseB_len hh.1
    have b := lossOf_bd (k := h.1) a.1 a.2 h0 h1
    have c := lineSum_bd h0 h1 (hs := hs) hh.2
    simp only [lineSum, List.length_cons]
    omega
theorem lineSum_flow {f g : Int} (h0 : 0 ≤ f) (h : f ≤ g) : ∀ {hs : List (Int × Int)}, hosesB hs = true → lineSum hs f ≤ lineSum hs g
  | [], _ => by simp [lineSum]
  | x :: hs, hh => by
    simp only [hosesB, List.all_cons, Bool.and_eq_true] at hh
    have a := hoseB_len hh.1
    have b := lossOf_flow (k := x.1) a.1 h0 h
    have c := lineSum_flow h0 h (hs := hs) hh.2
    simp only [lineSum]
    omega
theorem lineB_iff {hs : List (Int × Int)} (h : lineB hs = true) : hosesB hs = true ∧ 1 ≤ hs.length ∧ hs.length ≤ 12 := by
  simp only [lineB, Bool.and_eq_true, inB_iff] at h
  exact ⟨h.1, by omega, by omega⟩
theorem hosesB_take {hs : List (Int × Int)} (h : hosesB hs = true) (k : Nat) : hosesB (hs.take k) = true := by
  simp only [hosesB, List.all_eq_true] at h ⊢
  exact fun x hx => h x (List.mem_of_mem_take hx)

set_option maxHeartbeats 1000000 in
theorem isLine_any (A : Option Addr) (n c : Nat) (hs : List (Int × Int)) (w : World) (hn : n = hs.length) (hm : n ≤ 1048576) (hr : Rd w A (hs.flatMap hcells)) :
    Calls Tryd.prog 58 #[.slice A n c] w fun e w' => e = .returned (.bool (lineB hs)) ∧ Below w.heap.size w w' := by
  have Hn := hide hn
  clear hn
  have Hr := hide hr
  clear hr
  go_enter Tryd.func58, Tryd.ntmps58
  go_wp2_with fail
  go_loopw [7] (fun t wr => ∃ k : Nat, k ≤ n ∧ t = .int .i64 k ∧ Hid (hosesB (hs.take k) = true) ∧ Below w.heap.size w wr) (fun t _ => n - (intOf t).toNat)
  case atStart => exact ⟨0, by omega, rfl, hide (by simp [hosesB]), Below.refl _ _⟩
  case round =>
    obtain ⟨k, hk, rfl, HA, hb⟩ := hrel
    by_cases hlt : k < n
    · obtain ⟨⟨x, y⟩, hh⟩ : ∃ h, hs[k]? = some h := ⟨_, List.getElem?_eq_getElem (by rw [← Hn.out]; exact hlt)⟩
      obtain ⟨b, off, rfl, hbs, c0, c1⟩ := (Hr.out.below hb).get2 (fun _ => rfl) hh rfl
      have Hh := hide hh
      clear hh
      dsimp only at c0 c1
      cases hx : hoseB x y with
      | true =>
        have c := fun w => isHose_any x y w
        rw [hx] at c
        have Hx := hide hx
        clear hx
        go_wp2_with (go_at_call 75; ((with_reducible refine (c _).mono ?_); rintro e w1 ⟨rfl, hb1⟩); obtain ⟨hc1, hf1⟩ := bcell hb1)
        go_roundw
        case rel => exact ⟨k + 1, by omega, by go_num, hide (all_take_succ _ Hh.out HA.out Hx.out), (hb.alloc hb.size _).trans (hb1.mono (by have := hb.size; simp; omega))⟩
        case measure => simp [intOf]; omega
      | false =>
        have c := fun w => isHose_any x y w
        rw [hx] at c
        have Hx := hide hx
        clear hx
        go_wp2_with (go_at_call 75; ((with_reducible refine (c _).mono ?_); rintro e w1 ⟨rfl, hb1⟩); obtain ⟨hc1, hf1⟩ := bcell hb1)
        go_ret
        exact ⟨ret_bool (by rw [lineB, hosesB, all_false_of _ Hh.out Hx.out]; rfl), (hb.alloc hb.size _).trans (hb1.mono (by have := hb.size; simp; omega))⟩
    · go_wp2_with (go_at_call 68; ((with_reducible refine (inside_any _ _ _ _).mono ?_); rintro e w' ⟨rfl, rfl⟩))
      go_ret
      exact ⟨ret_bool (by rw [lineB, hosesB, all_of_take _ (by have := Hn.out; omega) HA.out, Hn.out]; rfl), hb⟩

set_option maxHeartbeats 1000000 in
theorem lineLoss_any (A : Option Addr) (n c : Nat) (f : Int) (hs : List (Int × Int)) (w : World) (hn : n = hs.length) (hr : Rd w A (hs.flatMap hcells)) (hv : lineB hs = true) (hf : inB f 0 3000 = true) :
    Calls Tryd.prog 69 #[.slice A n c, .int .i64 f] w fun e w' => e = .returned (.int .i64 (lineSum hs f)) ∧ Below w.heap.size w w' := by
  have hm : n ≤ 12 := by have := (lineB_iff hv).2.2; omega
  have f0 := (inB_iff.1 hf).1
  have f1 := (inB_iff.1 hf).2
  have Hn := hide hn
  have Hv := hide hv
  have Hf := hide hf
  have Hr := hide hr
  clear hn hr hv hf
  go_enter Tryd.func69, Tryd.ntmps69
  go_wp2_with fail
  go_loopw [5, 10] (fun s t wr => ∃ k : Nat, k ≤ n ∧ t = .int .i64 k ∧ s = .int .i64 (lineSum (hs.take k) f) ∧ Below w.heap.size w wr) (fun _ t _ => n - (intOf t).toNat)
  case atStart => exact ⟨0, by omega, rfl, by simp [lineSum], Below.refl _ _⟩
  case round =>
    obtain ⟨k, hk, rfl, rfl, hb⟩ := hrel
    obtain ⟨s0, s1⟩ := lineSum_bd f0 f1 (hosesB_take (lineB_iff Hv.out).1 k)
    have sl : (hs.take k).length ≤ 12 := by rw [List.length_take]; have := (lineB_iff Hv.out).2.2; omega
    have s2 : lineSum (hs.take k) f ≤ 27000012 := by omega
    clear s1 sl
    by_cases hlt : k < n
    · obtain ⟨⟨x, y⟩, hh⟩ : ∃ h, hs[k]? = some h := ⟨_, List.getElem?_eq_getElem (by rw [← Hn.out]; exact hlt)⟩
      obtain ⟨b, off, rfl, hbs, c0, c1⟩ := (Hr.out.below hb).get2 (fun _ => rfl) hh rfl
      have Hh := hide hh
      clear hh
      dsimp only at c0 c1
      have hx : hoseB x y = true := by
        have := (lineB_iff Hv.out).1
        simp only [hosesB, List.all_eq_true] at this
        exact this (x, y) (List.mem_of_getElem? Hh.out)
      have c := fun w => hoseLoss_any x y f w hx Hf.out
      obtain ⟨b0, b1⟩ := lossOf_bd (k := x) (hoseB_len (x := (x, y)) hx).1 (hoseB_len (x := (x, y)) hx).2 f0 f1
      clear hx
      go_wp2_with (go_at_call 76; ((with_reducible refine (c _).mono ?_); rintro e w1 ⟨rfl, hb1⟩); obtain ⟨hc1, hf1⟩ := bcell hb1)
      go_roundw
      case rel => exact ⟨k + 1, by omega, by go_num, by rw [lineSum_succ Hh.out], (hb.alloc hb.size _).trans (hb1.mono (by have := hb.size; simp; omega))⟩
      case measure => simp [intOf]; omega
    · go_wp2
      go_ret
      exact ⟨ret_int (by rw [List.take_of_length_le (by have := Hn.out; omega)]), hb⟩
set_option maxHeartbeats 1000000 in
theorem hoGood_any (A : Option Addr) (n c : Nat) (hs : List (Int × Int)) (w : World) (hn : n = hs.length) (hm : n ≤ 1048576) (hr : Rd w A (hs.flatMap hcells)) :
    Calls Tryd.prog 55 #[.slice A n c] w fun e w' => e = .returned (.bool (lineB hs)) ∧ Below w.heap.size w w' := by
  have Hn := hide hn
  clear hn
  have Hr := hide hr
  clear hr
  go_enter Tryd.func55, Tryd.ntmps55
  go_wp2_with fail
  go_loopw [7] (fun t wr => ∃ k : Nat, k ≤ n ∧ t = .int .i64 k ∧ Hid (hosesB (hs.take k) = true) ∧ Below w.heap.size w wr) (fun t _ => n - (intOf t).toNat)
  case atStart => exact ⟨0, by omega, rfl, hide (by simp [hosesB]), Below.refl _ _⟩
  case round =>
    obtain ⟨k, hk, rfl, HA, hb⟩ := hrel
    by_cases hlt : k < n
    · obtain ⟨⟨x, y⟩, hh⟩ : ∃ h, hs[k]? = some h := ⟨_, List.getElem?_eq_getElem (by rw [← Hn.out]; exact hlt)⟩
      obtain ⟨b, off, rfl, hbs, c0, c1⟩ := (Hr.out.below hb).get2 (fun _ => rfl) hh rfl
      have Hh := hide hh
      clear hh
      dsimp only at c0 c1
      cases hx : hoseB x y with
      | true =>
        have c := fun w => hoOne_any x y w
        rw [hx] at c
        have Hx := hide hx
        clear hx
        go_wp2_with (go_at_call 77; ((with_reducible refine (c _).mono ?_); rintro e w1 ⟨rfl, hb1⟩); obtain ⟨hc1, hf1⟩ := bcell hb1)
        go_roundw
        case rel => exact ⟨k + 1, by omega, by go_num, hide (all_take_succ _ Hh.out HA.out Hx.out), (hb.alloc hb.size _).trans (hb1.mono (by have := hb.size; simp; omega))⟩
        case measure => simp [intOf]; omega
      | false =>
        have c := fun w => hoOne_any x y w
        rw [hx] at c
        have Hx := hide hx
        clear hx
        go_wp2_with (go_at_call 77; ((with_reducible refine (c _).mono ?_); rintro e w1 ⟨rfl, hb1⟩); obtain ⟨hc1, hf1⟩ := bcell hb1)
        go_ret
        exact ⟨ret_bool (by rw [lineB, hosesB, all_false_of _ Hh.out Hx.out]; rfl), (hb.alloc hb.size _).trans (hb1.mono (by have := hb.size; simp; omega))⟩
    · go_wp2_with (go_at_call 113; ((with_reducible refine (l1In_any _ _ _ _).mono ?_); rintro e w' ⟨rfl, rfl⟩))
      go_ret
      exact ⟨ret_bool (by rw [lineB, hosesB, all_of_take _ (by have := Hn.out; omega) HA.out, Hn.out]; rfl), hb⟩

set_option maxHeartbeats 1000000 in
theorem hoLine_any (A : Option Addr) (n c : Nat) (f : Int) (hs : List (Int × Int)) (w : World) (hn : n = hs.length) (hr : Rd w A (hs.flatMap hcells)) (hv : lineB hs = true) (hf : inB f 0 3000 = true) :
    Calls Tryd.prog 71 #[.slice A n c, .int .i64 f] w fun e w' => e = .returned (.int .i64 (lineSum hs f)) ∧ Below w.heap.size w w' := by
  have hm : n ≤ 12 := by have := (lineB_iff hv).2.2; omega
  have f0 := (inB_iff.1 hf).1
  have f1 := (inB_iff.1 hf).2
  have Hn := hide hn
  have Hv := hide hv
  have Hf := hide hf
  have Hr := hide hr
  clear hn hr hv hf
  go_enter Tryd.func71, Tryd.ntmps71
  go_wp2_with fail
  go_loopw [5, 10] (fun s t wr => ∃ k : Nat, k ≤ n ∧ t = .int .i64 k ∧ s = .int .i64 (lineSum (hs.take k) f) ∧ Below w.heap.size w wr) (fun _ t _ => n - (intOf t).toNat)
  case atStart => exact ⟨0, by omega, rfl, by simp [lineSum], Below.refl _ _⟩
  case round =>
    obtain ⟨k, hk, rfl, rfl, hb⟩ := hrel
    obtain ⟨s0, s1⟩ := lineSum_bd f0 f1 (hosesB_take (lineB_iff Hv.out).1 k)
    have sl : (hs.take k).length ≤ 12 := by rw [List.length_take]; have := (lineB_iff Hv.out).2.2; omega
    have s2 : lineSum (hs.take k) f ≤ 27000012 := by omega
    clear s1 sl
    by_cases hlt : k < n
    · obtain ⟨⟨x, y⟩, hh⟩ : ∃ h, hs[k]? = some h := ⟨_, List.getElem?_eq_getElem (by rw [← Hn.out]; exact hlt)⟩
      obtain ⟨b, off, rfl, hbs, c0, c1⟩ := (Hr.out.below hb).get2 (fun _ => rfl) hh rfl
      have Hh := hide hh
      clear hh
      dsimp only at c0 c1
      have hx : hoseB x y = true := by
        have := (lineB_iff Hv.out).1
        simp only [hosesB, List.all_eq_true] at this
        exact this (x, y) (List.mem_of_getElem? Hh.out)
      have c := fun w => hoLoss_any x y f w hx Hf.out
      obtain ⟨b0, b1⟩ := lossOf_bd (k := x) (hoseB_len (x := (x, y)) hx).1 (hoseB_len (x := (x, y)) hx).2 f0 f1
      clear hx
      go_wp2_with (go_at_call 78; ((with_reducible refine (c _).mono ?_); rintro e w1 ⟨rfl, hb1⟩); obtain ⟨hc1, hf1⟩ := bcell hb1)
      go_roundw
      case rel => exact ⟨k + 1, by omega, by go_num, by rw [lineSum_succ Hh.out], (hb.alloc hb.size _).trans (hb1.mono (by have := hb.size; simp; omega))⟩
      case measure => simp [intOf]; omega
    · go_wp2
      go_ret
      exact ⟨ret_int (by rw [List.take_of_length_le (by have := Hn.out; omega)]), hb⟩

def lineOk (hs : List (Int × Int)) (f : Int) : Bool := lineB hs && inB f 0 3000
def lineR (hs : List (Int × Int)) (f : Int) : Int := if lineOk hs f then lineSum hs f else 0

def gfP (hs : List (Int × Int)) (p : Int) : Nat → Bool := fun k => decide (lineSum hs k ≤ p)
def gfOf (hs : List (Int × Int)) (p : Int) : Int := (greatest (gfP hs p) 3000 : Nat)
attribute [irreducible] gfOf
theorem gfOf_eq {hs : List (Int × Int)} {p : Int} {k : Nat} (hv : hosesB hs = true) (hk : k ≤ 3000) (h0 : k = 0 ∨ lineSum hs k ≤ p) (h1 : k = 3000 ∨ p < lineSum hs (k + 1)) : gfOf hs p = k := by
  unfold gfOf
  rw [greatest_eq (P := gfP hs p) (fun j hj => ?_) 3000 k hk (h0.imp id fun h => by simpa [gfP] using h) (h1.imp id fun h => by simp [gfP]; omega)]
  simp only [gfP, decide_eq_true_eq] at hj ⊢
  have := lineSum_flow (f := (j : Int)) (g := ((j + 1 : Nat) : Int)) (by omega) (by omega) hv
  omega
theorem gfOf_bd (hs : List (Int × Int)) (p : Int) : 0 ≤ gfOf hs p ∧ gfOf hs p ≤ 3000 := by
  unfold gfOf
  have := greatest_le (gfP hs p) 3000
  omega
def gfOk (hs : List (Int × Int)) (p : Int) : Bool := lineB hs && inB p 0 2000
def gfR (hs : List (Int × Int)) (p : Int) : Int := if gfOk hs p then gfOf hs p else 0

def pumpV (hs : List (Int × Int)) (r n f : Int) : Int := max (lineSum hs f + r + lpOf n f) 0
def pumpOk (hs : List (Int × Int)) (r n f : Int) : Bool := lineB hs && inB r (-1000) 1000 && inB n 4 40 && inB f 0 3000 && lpOk n f && decide (pumpV hs r n f ≤ 2000)
def pumpR (hs : List (Int × Int)) (r n f : Int) : Int := if pumpOk hs r n f then pumpV hs r n f else 0

set_option maxHeartbeats 1000000 in
theorem implLineLoss_any (A : Option Addr) (n c : Nat) (f : Int) (hs : List (Int × Int)) (w : World) (hn : n = hs.length) (hm : n ≤ 1048576) (hr : Rd w A (hs.flatMap hcells)) :
    Calls Tryd.prog 23 #[.slice A n c, .int .i64 f] w fun e w' => e = .returned (.tuple #[.int .i64 (lineR hs f), .bool (lineOk hs f)]) ∧ Below w.heap.size w w' := by
  have Hn := hide hn
  have HR := hide hr
  clear hn hr
  go_enter Tryd.func23, Tryd.ntmps23
  go_wp2_with (first | (go_at_call 58; ((with_reducible refine (isLine_any A n c hs _ Hn.out hm HR.out).mono ?_); rintro e w1 ⟨rfl, hb1⟩); obtain ⟨hc1, hf1⟩ := bcell hb1) | (go_at_call 68; ((with_reducible refine (inside_any _ _ _ _).mono ?_); rintro e w' ⟨rfl, rfl⟩)) | (go_at_call 69; ((with_reducible refine (lineLoss_any A n c f hs _ Hn.out (HR.out.below hb1) (by first | assumption | exact bnf (by assumption) | exact bnt (by assumption)) (by first | assumption | exact bnf (by assumption) | exact bnt (by assumption))).mono ?_); rintro e w2 ⟨rfl, hb2⟩); obtain ⟨hc2, hf2⟩ := bcell hb2))
  all_goals
    ((try simp only [Bool.not_eq_true'] at *); (try simp only [Bool.not_eq_false'] at *))
    go_ret2
    exact ⟨ret_tup2 (by simp [lineR, lineOk, *]) (by simp [lineOk, *]), (by repeat (first | exact Below.refl _ _ | refine below_step ?_ (by assumption) | refine below_step ?_ (Later.below _) | refine below_alloc ?_ _ | refine Below.drew ?_ | refine Below.setCell ?_ (by first | (simp; done) | (simp; omega)) _))⟩

set_option maxHeartbeats 1000000 in
theorem specLineLoss_any (A : Option Addr) (n c : Nat) (f : Int) (hs : List (Int × Int)) (w : World) (hn : n = hs.length) (hm : n ≤ 1048576) (hr : Rd w A (hs.flatMap hcells)) :
    Calls Tryd.prog 24 #[.slice A n c, .int .i64 f] w fun e w' => e = .returned (.tuple #[.int .i64 (lineR hs f), .bool (lineOk hs f)]) ∧ Below w.heap.size w w' := by
  have Hn := hide hn
  have HR := hide hr
  clear hn hr
  go_enter Tryd.func24, Tryd.ntmps24
  go_wp2_with (first | (go_at_call 55; ((with_reducible refine (hoGood_any A n c hs _ Hn.out hm HR.out).mono ?_); rintro e w1 ⟨rfl, hb1⟩); obtain ⟨hc1, hf1⟩ := bcell hb1) | (go_at_call 73; ((with_reducible refine (hoFlow_any _ _).mono ?_); rintro e w' ⟨rfl, rfl⟩)) | (go_at_call 71; ((with_reducible refine (hoLine_any A n c f hs _ Hn.out (HR.out.below hb1) (by first | assumption | exact bnf (by assumption) | exact bnt (by assumption)) (by first | assumption | exact bnf (by assumption) | exact bnt (by assumption))).mono ?_); rintro e w2 ⟨rfl, hb2⟩); obtain ⟨hc2, hf2⟩ := bcell hb2))
  all_goals
    ((try simp only [Bool.not_eq_true'] at *); (try simp only [Bool.not_eq_false'] at *))
    go_ret2
    exact ⟨ret_tup2 (by simp [lineR, lineOk, *]) (by simp [lineOk, *]), (by repeat (first | exact Below.refl _ _ | refine below_step ?_ (by assumption) | refine below_step ?_ (Later.below _) | refine below_alloc ?_ _ | refine Below.drew ?_ | refine Below.setCell ?_ (by first | (simp; done) | (simp; omega)) _))⟩

set_option maxRecDepth 100000 in
set_option maxHeartbeats 1000000 in
theorem implGreatestFlow_any (A : Option Addr) (n c : Nat) (p : Int) (hs : List (Int × Int)) (w : World) (hn : n = hs.length) (hm : n ≤ 1048576) (hr : Rd w A (hs.flatMap hcells)) :
    Calls Tryd.prog 20 #[.slice A n c, .int .i64 p] w fun e w' => e = .returned (.tuple #[.int .i64 (gfR hs p), .bool (gfOk hs p)]) ∧ Below w.heap.size w w' := by
  have Hn := hide hn
  have HR := hide hr
  clear hn hr
  cases hv : gfOk hs p with
  | false =>
    have e1 : gfR hs p = 0 := by simp [gfR, hv]
    rw [e1]
    go_enter Tryd.func20, Tryd.ntmps20
    go_wp2_with (first | (go_at_call 58; ((with_reducible refine (isLine_any A n c hs _ Hn.out hm HR.out).mono ?_); rintro e w1 ⟨rfl, hb1⟩); obtain ⟨hc1, hf1⟩ := bcell hb1) | (go_at_call 68; ((with_reducible refine (inside_any _ _ _ _).mono ?_); rintro e w' ⟨rfl, rfl⟩)))
    all_goals first
      | (go_ret2; exact ⟨rfl, (by repeat (first | exact Below.refl _ _ | refine below_step ?_ (by assumption) | refine below_step ?_ (Later.below _) | refine below_alloc ?_ _ | refine Below.drew ?_ | refine Below.setCell ?_ (by first | (simp; done) | (simp; omega)) _))⟩)
      | (exfalso; ((try simp only [Bool.not_eq_true'] at *); (try simp only [Bool.not_eq_false'] at *)); simp [gfOk, *] at hv)
  | true =>
    simp only [gfOk, Bool.and_eq_true] at hv
    obtain ⟨hl, hp⟩ := hv
    have c1 := fun w h => isLine_any A n c hs w Hn.out hm h
    have c2 := fun w => inside_any p 0 2000 w
    rw [hl] at c1
    rw [hp] at c2
    have HL := hide hl
    have HP := hide hp
    clear hl hp
    have C1 := hide c1
    clear c1
    go_enter Tryd.func20, Tryd.ntmps20
    go_wp2_with (first | (go_at_call 58; ((with_reducible refine (C1.out _ HR.out).mono ?_); rintro e w1 ⟨rfl, hb1⟩); obtain ⟨hc1, hf1⟩ := bcell hb1) | (go_at_call 68; ((with_reducible refine (c2 _).mono ?_); rintro e w' ⟨rfl, rfl⟩)))
    go_loopw [6] (fun t wr => ∃ k : Nat, (k : Int) ≤ 3000 ∧ t = .int .i64 k ∧ Hid (k = 0 ∨ lineSum hs k ≤ p) ∧ Below w.heap.size w wr) (fun t _ => (3000 - intOf t).toNat)
    case atStart => exact ⟨0, by omega, rfl, hide (.inl rfl), hb1⟩
    case round =>
      obtain ⟨k, hk', rfl, HA, hb⟩ := hrel
      have hfin : lineSum hs (k + 1) > p ∨ k = 3000 → gfR hs p = k := fun h => by
        rw [gfR, gfOk, HL.out, HP.out]
        exact gfOf_eq (lineB_iff HL.out).1 (by omega) HA.out (h.symm.imp id id)
      have HX := hide hfin
      clear hfin
      by_cases hlt : (k : Int) < 3000
      · have c := fun w h => lineLoss_any A n c ((k : Int) + 1) hs w Hn.out h HL.out (inB_true (by omega) (by omega))
        have C := hide c
        clear c
        by_cases hc : lineSum hs ((k : Int) + 1) ≤ p
        · go_wp2_with (go_at_call 69; ((with_reducible refine (C.out _ (HR.out.below hb)).mono ?_); rintro e w2 ⟨rfl, hb2⟩); obtain ⟨hc2, hf2⟩ := bcell hb2)
          go_roundw
          case rel => exact ⟨k + 1, by omega, by go_num, hide (.inr (by simpa using hc)), below_step hb hb2⟩
          case measure => simp [intOf]; omega
        · go_wp2_with (go_at_call 69; ((with_reducible refine (C.out _ (HR.out.below hb)).mono ?_); rintro e w2 ⟨rfl, hb2⟩); obtain ⟨hc2, hf2⟩ := bcell hb2)
          go_ret2
          exact ⟨ret_tup2 (HX.out (.inl (by omega))).symm (by simp), below_step hb hb2⟩
      · go_wp2
        go_ret2
        exact ⟨ret_tup2 (HX.out (.inr (by omega))).symm (by simp), hb⟩
end Go.Proofs.YtmoelgbbgepckaaDoor
