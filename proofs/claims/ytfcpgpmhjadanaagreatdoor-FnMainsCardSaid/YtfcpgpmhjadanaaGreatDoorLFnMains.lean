/- The law FnMains: its statement, for every input, without a condition: for all drawn flows the load of the first main is the sum, tight and overloaded mains are told by the limits, and texts of nets are read back. The package-level variables that it lists read as the program's text lays them; the card ties them to that text. No other condition. -/
import Derived.Test.YtfcpgpmhjadanaaGreatDoorLawBase
import Derived.Test.YtfcpgpmhjadanaaGreatDoorPmE
import Derived.Test.YtfcpgpmhjadanaaGreatDoorCards
import Derived.Test.YtfcpgpmhjadanaaGreatDoorTie
import Derived.Test.YtfcpgpmhjadanaaGreatDoorPmFnMa
namespace Go.Proofs.YtfcpgpmhjadanaaGreatDoor
open Go.ChangeShapes Go.WideShapes Go.ChangeAt Go.RowKit
/-- The door's own heap meets the condition. -/
theorem FnMains_door (os : Os) (args : Array Value) : laidMetH Tryz.prog Rows.fnMainsRow.laid ((World.laidAll Tryz.prog os Rows.fnMainsRow.laid).forCall (fun _ _ => 0) ⟨#[], args, []⟩).memory :=
  by rw [MakeChecks.laidMetH_plain _ _ _ (by kernel_rfl)]; exact laidMet_laidAll _ (by kernel_rfl) (by kernel_rfl)
set_option maxRecDepth 100000 in
theorem FnMains_lift (os : Os) (started : os.Started) (H : Type) (enc : TypeId × Value → H) :
    ReturnsInHanded {} Tryz.checked os 3 .any (fun w args => (Rows.fnMainsSpec.pre enc Tryz.prog Tryz.f3 [] false w args ∧ laidMetH Tryz.prog Rows.fnMainsRow.laid w) ∧ sizedMet enc Tryz.prog Tryz.f3 (OpenSpec.ofChange Rows.fnMainsSpec) false w args) (Rows.fnMainsSpec.post enc Tryz.prog Tryz.f3 false true false false) := by
  refine law_lift_shaped (C := Tryz.checked) (laid := Rows.fnMainsRow.laid) law_own started rfl (by kernel_rfl) Tryz.func3 rfl (tb := 4) Tryz.underlying4 law_laidOut (by kernel_rfl) (fun ds h => by
    have h2 : ds.length = 2 := h
    match ds, h2 with | [_, _], _ => rfl)
    (ChangeSpec.witness_shaped (enc := enc) (C := Tryz.checked) (os := os) (X := fun w _ => laidMetH Tryz.prog Rows.fnMainsRow.laid w) false (World.laidAll Tryz.prog os Rows.fnMainsRow.laid) #[.slice none 0 0, .slice none 0 0] 8 (World.laidAll_os _ _ _) (World.shaped_of_ZipB (by kernel_rfl) (by kernel_rfl)) (by kernel_rfl) (by kernel_rfl) (by kernel_rfl) (FnMains_door os _)) ?_
  intro W base args ds p hval0 hA0 hz hL0 hsh0
  have hval : ∀ (j : Nat) t v, Tryz.f3.params[j]? = some t → args[j]? = some v → Value.okWide Tryz.prog W .any base t v := hval0
  have hA : DataW.TrodAll enc Tryz.prog W 0 (fun _ => true) true Tryz.f3.params.toList args.toList ds p := hA0
  clear hval0 hA0
  rw [Tryz.params3] at hA hval
  obtain ⟨v0, vs0, d0, ds0, p0, q0, hargs, rfl, rfl, h0, r0⟩ := trodAll_cons hA
  obtain ⟨v1, vs1, d1, ds1, p1, q1, rfl, rfl, rfl, h1, r1⟩ := trodAll_cons r0
  obtain ⟨rfl, rfl, rfl⟩ := trodAll_nil r1
  obtain rfl : args = #[v0, v1] := by cases args; simp_all
  obtain ⟨A0, n0, c0, rows0, rfl, hl0, hnc0, hc0, hq0, hr0, hz0, hd0⟩ := open_rows 1 (fun cs => ∃ x : { x : Int // (Lit.int .u8 x).wf = true }, [Value.int .u8 x.1] = cs) Tryz.underlying22 (by kernel_rfl) (fun fuel cs x hx => by obtain ⟨n, rfl, _, hw⟩ := DataW.trod_int Tryz.underlying5 hx; exact ⟨⟨n, hw⟩, rfl⟩) (hval 0 22 v0 rfl rfl) h0
  obtain ⟨l0, rfl⟩ := rows_map (fun x : { x : Int // (Lit.int .u8 x).wf = true } => [Value.int .u8 x.1]) rows0 (fun r hr => (hq0 r hr).2)
  have hr0' : Rd W A0 ((l0.map (·.1)).map (Value.int .u8)) := by rw [List.map_map, show l0.map ((Value.int .u8) ∘ (·.1)) = (l0.map (fun x => [Value.int .u8 x.1])).flatten from (flat_ones _ _).symm]; exact hr0
  have hs0 : ∀ x ∈ l0.map (·.1), (Lit.int .u8 x).wf = true := fun x hx => by obtain ⟨y, _, rfl⟩ := List.mem_map.1 hx; exact y.2
  have hl0' : n0 = (l0.map (·.1)).length := by rw [← hl0]; simp
  obtain ⟨A1, n1, c1, rows1, rfl, hl1, hnc1, hc1, hq1, hr1, hz1, hd1⟩ := open_rows 1 (fun cs => ∃ x : { x : Int // (Lit.int .u8 x).wf = true }, [Value.int .u8 x.1] = cs) Tryz.underlying22 (by kernel_rfl) (fun fuel cs x hx => by obtain ⟨n, rfl, _, hw⟩ := DataW.trod_int Tryz.underlying5 hx; exact ⟨⟨n, hw⟩, rfl⟩) (hval 1 22 v1 rfl rfl) h1
  obtain ⟨l1, rfl⟩ := rows_map (fun x : { x : Int // (Lit.int .u8 x).wf = true } => [Value.int .u8 x.1]) rows1 (fun r hr => (hq1 r hr).2)
  have hr1' : Rd W A1 ((l1.map (·.1)).map (Value.int .u8)) := by rw [List.map_map, show l1.map ((Value.int .u8) ∘ (·.1)) = (l1.map (fun x => [Value.int .u8 x.1])).flatten from (flat_ones _ _).symm]; exact hr1
  have hs1 : ∀ x ∈ l1.map (·.1), (Lit.int .u8 x).wf = true := fun x hx => by obtain ⟨y, _, rfl⟩ := List.mem_map.1 hx; exact y.2
  have hl1' : n1 = (l1.map (·.1)).length := by rw [← hl1]; simp
  exact FnMains_walk A0 n0 c0 (l0.map (·.1)) A1 n1 c1 (l1.map (·.1)) W hl0' hnc0 hc0 hr0' hs0 hl1' hnc1 hc1 hr1' hs1 (env_n hL0 hsh0)

/-- The statement. -/
theorem FnMains_row : Rows.FnMainsSaid :=
  OpenClaim.holds_of_wide 3 Tryz.f3 rfl rfl rfl rfl rfl rfl rfl ⟨rfl, rfl, rfl, rfl, rfl⟩ rfl rfl rfl rfl rfl (by kernel_rfl) Tryz.func3 (by kernel_rfl)
    (of_decide_eq_true (by kernel_rfl)) (by unfold Func.isWrapper; rw [if_neg (of_decide_eq_false (by kernel_rfl))]; exact ⟨rfl, rfl⟩)
    (fun os started H enc _ => FnMains_lift os started H enc)

/-- The card. -/
theorem FnMains_holds : Rows.FnMainsCardSaid :=
  Claim7.holds_tied_plain_at .later [] [.data, .data, .data, .data, .sentinel, .sentinel, .listed, .data, .pinned] true (true, "1063154a288bd2b801ccb149f9ff28634957b76949c885dcd64831b98bba7496") true
    FnMains_row (fun _ h => by cases h) (by kernel_rfl) (fun _ h => by cases h) fnMains_row_tie rfl ⟨rfl, rfl⟩ (by kernel_rfl) rfl
    (fun f fn hf hfn => by
      obtain rfl : f = 3 := Option.some.inj ((show Tryz.prog.funcNamed "loop.example/g01020/laws.FnMains" = some 3 by kernel_rfl).symm.trans hf) |>.symm
      obtain rfl : fn = Tryz.f3 := (Option.some.inj (Tryz.func3.symm.trans hfn)).symm
      exact ⟨by kernel_rfl, fun j t ht => by
        rw [Tryz.params3] at ht
        cases j with
        | zero =>
          obtain rfl : t = 22 := by simpa using ht.symm
          exact (show Tryz.prog.wantsStandIn 22 = false by kernel_rfl)
        | succ j =>
          cases j with
          | zero =>
            obtain rfl : t = 22 := by simpa using ht.symm
            exact (show Tryz.prog.wantsStandIn 22 = false by kernel_rfl)
          | succ j =>
            simp at ht⟩)
    (by kernel_rfl)
#print axioms FnMains_holds
end Go.Proofs.YtfcpgpmhjadanaaGreatDoor
