/- The law FnStreets: its statement, for every input, without a condition: for all drawn towns closed streets can be added again, detours are what is longer then, cut streets have no detour, the nearest node is nearest, and texts of towns are read back. The package-level variables that it lists read as the program's text lays them; the card ties them to that text. No other condition. -/
import Derived.Test.YtbhnaakknfienaaGreatDoorPrE
import Derived.Test.YtbhnaakknfienaaGreatDoorCards
import Derived.Test.YtbhnaakknfienaaGreatDoorTie
import Derived.Test.YtbhnaakknfienaaGreatDoorPrFnSt
namespace Go.Proofs.YtbhnaakknfienaaGreatDoor
open Go.ChangeShapes Go.WideShapes Go.ChangeAt Go.RowKit
/-- The door's own heap meets the condition. -/
theorem FnStreets_door (os : Os) (args : Array Value) : laidMetH Tryz.prog Rows.fnStreetsRow.laid ((World.doorLaid Tryz.prog 86 os).forCall (fun _ _ => 0) ⟨#[], args, []⟩).memory :=
  laidMetH_of_parts3 (fuel := 8) (laidMet_of_run' 8 (by kernel_rfl) (by kernel_rfl)) (by kernel_rfl) (by kernel_rfl)
set_option maxRecDepth 100000 in
theorem FnStreets_lift (os : Os) (started : os.Started) (H : Type) (enc : TypeId × Value → H) :
    ReturnsInHanded {} Tryz.checked os 3 .any (fun w args => (Rows.fnStreetsSpec.pre enc Tryz.prog Tryz.f3 [] false w args ∧ laidMetH Tryz.prog Rows.fnStreetsRow.laid w) ∧ sizedMet enc Tryz.prog Tryz.f3 (OpenSpec.ofChange Rows.fnStreetsSpec) false w args) (Rows.fnStreetsSpec.post enc Tryz.prog Tryz.f3 false true false false) := by
  refine law_lift_shaped (C := Tryz.checked) (laid := Rows.fnStreetsRow.laid) law_own started rfl (by kernel_rfl) Tryz.func3 rfl (tb := 4) Tryz.underlying4 law_laidOut (by kernel_rfl) (fun ds h => by
    have h2 : ds.length = 2 := h
    match ds, h2 with | [_, _], _ => rfl)
    (ChangeSpec.witness_shaped (enc := enc) (C := Tryz.checked) (os := os) (X := fun w _ => laidMetH Tryz.prog Rows.fnStreetsRow.laid w) false (World.doorLaid Tryz.prog 86 os) #[.slice none 0 0, .slice none 0 0] 8 rfl (World.shaped_of_RefB (by kernel_rfl) (by kernel_rfl)) (by kernel_rfl) (by kernel_rfl) (by kernel_rfl) (FnStreets_door os _)) ?_
  intro W base args ds p hval0 hA0 hz hL0 hsh0
  have hval : ∀ (j : Nat) t v, Tryz.f3.params[j]? = some t → args[j]? = some v → Value.okWide Tryz.prog W .any base t v := hval0
  have hA : DataW.TrodAll enc Tryz.prog W 0 (fun _ => true) true Tryz.f3.params.toList args.toList ds p := hA0
  clear hval0 hA0
  rw [Tryz.params3] at hA hval
  obtain ⟨v0, vs0, d0, ds0, p0, q0, hargs, rfl, rfl, h0, r0⟩ := trodAll_cons hA
  obtain ⟨v1, vs1, d1, ds1, p1, q1, rfl, rfl, rfl, h1, r1⟩ := trodAll_cons r0
  obtain ⟨rfl, rfl, rfl⟩ := trodAll_nil r1
  obtain rfl : args = #[v0, v1] := by cases args; simp_all
  obtain ⟨A0, n0, c0, rows0, rfl, hl0, hnc0, hc0, hq0, hr0, hz0, hd0⟩ := open_rows 1 (fun cs => ∃ x : { x : Int // (Lit.int .u8 x).wf = true }, [Value.int .u8 x.1] = cs) Tryz.underlying22 (by kernel_rfl) (fun fuel cs x hx => by obtain ⟨n, rfl, _, hw⟩ := DataW.trod_int Tryz.underlying5 hx; exact ⟨⟨n, hw⟩, rfl⟩) (hval 0 22 v0 rfl rfl) h0
  obtain ⟨l0, rfl⟩ := rows_map (fun x : { x : Int // (Lit.int .u8 x).wf = true } => [Value.int .u8 x.1]) rows0 (fun r hr => (hq0 r hr).2)
  have hr0' : Rd W A0 ((l0.map (·.1)).map (Value.int .u8)) := by rw [List.map_map, show l0.map ((Value.int .u8) ∘ (·.1)) = (l0.map (fun x => [Value.int .u8 x.1])).flatten from (flat_ones _ _).symm]; exact hr0
  have hs0 : ∀ x ∈ l0.map (·.1), (Lit.int .u8 x).wf = true := fun x hx => by obtain ⟨y, _, rfl⟩ := List.mem_map.1 hx; exact y.2
  have hl0' : n0 = (l0.map (·.1)).length := by rw [← hl0]; simp
  obtain ⟨A1, n1, c1, rows1, rfl, hl1, hnc1, hc1, hq1, hr1, hz1, hd1⟩ := open_rows 1 (fun cs => ∃ x : { x : Int // (Lit.int .u8 x).wf = true }, [Value.int .u8 x.1] = cs) Tryz.underlying22 (by kernel_rfl) (fun fuel cs x hx => by obtain ⟨n, rfl, _, hw⟩ := DataW.trod_int Tryz.underlying5 hx; exact ⟨⟨n, hw⟩, rfl⟩) (hval 1 22 v1 rfl rfl) h1
  obtain ⟨l1, rfl⟩ := rows_map (fun x : { x : Int // (Lit.int .u8 x).wf = true } => [Value.int .u8 x.1]) rows1 (fun r hr => (hq1 r hr).2)
  have hr1' : Rd W A1 ((l1.map (·.1)).map (Value.int .u8)) := by rw [List.map_map, show l1.map ((Value.int .u8) ∘ (·.1)) = (l1.map (fun x => [Value.int .u8 x.1])).flatten from (flat_ones _ _).symm]; exact hr1
  have hs1 : ∀ x ∈ l1.map (·.1), (Lit.int .u8 x).wf = true := fun x hx => by obtain ⟨y, _, rfl⟩ := List.mem_map.1 hx; exact y.2
  have hl1' : n1 = (l1.map (·.1)).length := by rw [← hl1]; simp
  exact FnStreets_walk A0 n0 c0 (l0.map (·.1)) A1 n1 c1 (l1.map (·.1)) W hl0' hnc0 hc0 hr0' hs0 hl1' hnc1 hc1 hr1' hs1 (env_c hL0 hsh0)

/-- The statement. -/
theorem FnStreets_row : Rows.FnStreetsSaid :=
  OpenClaim.holds_of_wide 3 Tryz.f3 rfl rfl rfl rfl rfl rfl rfl ⟨rfl, rfl, rfl, rfl, rfl⟩ rfl rfl rfl rfl rfl (by kernel_rfl) Tryz.func3 (by kernel_rfl)
    (of_decide_eq_true (by kernel_rfl)) (by unfold Func.isWrapper; rw [if_neg (of_decide_eq_false (by kernel_rfl))]; exact ⟨rfl, rfl⟩)
    (fun os started H enc _ => FnStreets_lift os started H enc)

/-- The card. -/
theorem FnStreets_holds : Rows.FnStreetsCardSaid :=
  Claim7.holds_tied_plain_at .later [] [.data, .data, .data, .sentinel, .sentinel, .listed, .data] true (true, "bbc04db0d012547168e5e35c8e754aa3cb6942c05d8b2e887365f00cb7c98f61") true
    FnStreets_row (fun _ h => by cases h) (by kernel_rfl) (fun _ h => by cases h) fnStreets_row_tie rfl ⟨rfl, rfl⟩ (by kernel_rfl) rfl
    (fun f fn hf hfn => by
      obtain rfl : f = 3 := Option.some.inj ((show Tryz.prog.funcNamed "loop.example/g01020/laws.FnStreets" = some 3 by kernel_rfl).symm.trans hf) |>.symm
      obtain rfl : fn = Tryz.f3 := (Option.some.inj (Tryz.func3.symm.trans hfn)).symm
      exact ⟨by kernel_rfl, fun j t ht => by
        rw [Tryz.params3] at ht
        cases j with
        | zero =>
          obtain rfl : t = 22 := by simpa using ht.symm
          exact (show Tryz.prog.wantsStandIn 22 = false by kernel_rfl)
        | succ j =>
          cases j with
          | zero =>
            obtain rfl : t = 22 := by simpa using ht.symm
            exact (show Tryz.prog.wantsStandIn 22 = false by kernel_rfl)
          | succ j =>
            simp at ht⟩)
    (by kernel_rfl)
#print axioms FnStreets_holds
end Go.Proofs.YtbhnaakknfienaaGreatDoor
