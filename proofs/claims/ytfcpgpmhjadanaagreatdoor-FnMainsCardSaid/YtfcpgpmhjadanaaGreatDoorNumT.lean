/- Numbers in decimal: the reference's way and the library's. -/
import Derived.Test.YtfcpgpmhjadanaaGreatDoorSmall
import Derived.Test.YtfcpgpmhjadanaaGreatDoorRegions
import Derived.Test.YtfcpgpmhjadanaaGreatDoorOwn
import Derived.Test.YtfcpgpmhjadanaaGreatDoorShelf
import Derived.Test.YtfcpgpmhjadanaaGreatDoorRegionsE
import Derived.Laws.IdiomStrings
import Derived.Lib.ItoaLen
import Derived.Lib.ItoaMem
import Derived.Lib.ItoaNum
namespace Go.Proofs.YtfcpgpmhjadanaaGreatDoor
open Go.RowKit
set_option linter.unusedVariables false

section
variable {P : Program} {ops : Array Oper} {Q : Exit → Act → World → Prop} {md : Region.Mode} {S : World → Prop}
/-- Two operations may come up: either. -/
theorem wpAnyN_two (i j : Nat) {oi oj : Oper} {fuel : Nat} {listed li lj : Array Bool} {a : Act} {w : World} (hr : Region.ready md ops listed = [i, j]) (hoi : ops[i]? = some oi) (hoj : ops[j]? = some oj) (hLi : listed.setIfInBounds i true = li) (hLj : listed.setIfInBounds j true = lj) (hgi : oi.guard = none) (hgj : oj.guard = none)
    (h1 : ∀ K : Act → World → Prop, (∀ a w', (S w' ∧ wpAnyH P md ops Q S fuel li a w') → K a w') → Oper.wp P oi a w K Q)
    (h2 : ∀ K : Act → World → Prop, (∀ a w', (S w' ∧ wpAnyH P md ops Q S fuel lj a w') → K a w') → Oper.wp P oj a w K Q) :
    wpAnyH P md ops Q S (fuel + 1) listed a w := by
  refine wpAnyH_all hr (by simp) fun k hk => ?_
  simp only [List.mem_cons, List.not_mem_nil, or_false] at hk
  rcases hk with rfl | rfl
  · refine wpOp_step hoi (fun K' hK => ?_)
    rw [if_pos (by simp [Region.wanted, hgi])]
    refine h1 K' (fun a' w' ⟨hS, hW⟩ => hK _ _ ⟨hS, ?_⟩)
    rw [hLi]
    exact hW
  · refine wpOp_step hoj (fun K' hK => ?_)
    rw [if_pos (by simp [Region.wanted, hgj])]
    refine h2 K' (fun a' w' ⟨hS, hW⟩ => hK _ _ ⟨hS, ?_⟩)
    rw [hLj]
    exact hW
end
/-- A number's text. -/
def txt (n : Nat) : ByteArray := ⟨(Lib.decDigits n).toArray⟩
def chr (c : UInt8) : ByteArray := ⟨#[c]⟩
theorem txt_size (n : Nat) (h : n ≤ 9223372036854775807) : (txt n).size ≤ 21 := by
  have h1 := Lib.itoa_length_le (n : Int) (by omega) (by omega)
  rw [Lib.itoa_nonneg] at h1
  show (Lib.decDigits n).toArray.size ≤ 21
  simpa using h1
theorem txt_one {n : Nat} (h : n < 10) : txt n = ⟨#[UInt8.ofNat (48 + n)]⟩ := by rw [txt, Lib.decDigits_one h]
theorem txt_more {n : Nat} (h : ¬ n < 10) : txt n = txt (n / 10) ++ ⟨#[UInt8.ofNat (48 + n % 10)]⟩ := by
  rw [txt, Lib.decDigits, dif_neg h, txt]
  apply ByteArray.ext
  simp [ByteArray.data_append]
theorem below_grow (w : World) (k : Nat) (os : Array Obj) : Below w.heap.size w (Sort.grow (w.drewN k) os) := by
  refine ⟨rfl, rfl, rfl, ?_, fun i hi => ?_⟩
  · simp [Sort.grow, World.drewN]
  · show (w.heap ++ os)[i]? = w.heap[i]?
    rw [Array.getElem?_append_left hi]
/-- The table that Itoa reads. -/
def Tab (w : World) : Prop := Lib.TabIs Tryz.prog w "internal/strconv.uint64pow10" .u64 Lib.pow10Tab
set_option maxHeartbeats 1000000 in
theorem itoa_any (n : Nat) (h : n ≤ 9223372036854775807) (w : World) (ht : Tab w) :
    Calls Tryz.prog 64 #[.int .i64 (n : Int)] w fun e w' => e = .returned (.string (txt n)) ∧ Below w.heap.size w w' :=
  (Tryz.strconv_Itoa (n : Int) (by omega) (by omega) w ht).mono fun e w' ⟨he, k, os, hw⟩ => ⟨by rw [he, Lib.itoa_nonneg]; rfl, by rw [hw]; exact below_grow w k os⟩
theorem tab_below {w w' : World} (h : Tab w) (hb : Below w.heap.size w w') : Tab w' := by
  have hg : (Tryz.prog.globalNamed "internal/strconv.uint64pow10").isSome = true := by kernel_rfl
  obtain ⟨g, hg⟩ := Option.isSome_iff_exists.1 hg
  unfold Tab Lib.TabIs World.var? at h ⊢
  rw [hg] at h ⊢
  simp only [Option.bind_some] at h ⊢
  have hlt : g < w.heap.size := by
    rcases Nat.lt_or_ge g w.heap.size with h' | h'
    · exact h'
    · rw [Array.getElem?_eq_none h'] at h; cases h
  rw [hb.block g hlt]
  exact h
theorem run_byte1 (a : Int) (w : World) : (Instr.buildSlice 22 1 #[(0, .int .u8 a)]).run Tryz.prog w = .ok (.slice (some ⟨w.heap.size, 0, none⟩) 1 1) (w.alloc (.cells #[.int .u8 a] 5)) := by kernel_rfl
theorem wp_of_run {P : Program} {Q : Exit → Act → World → Prop} {o : Oper} {a : Act} {w w' : World} {K : Act → World → Prop} {v : Value} (hrun : (execOp a.eval o).run P w = .ok (.value v) w') (h : K (a.put o.dst v) w') : Oper.wp P o a w K Q := by
  unfold Oper.wp
  rw [hrun]
  exact h
theorem wp_byte1 {Q : Exit → Act → World → Prop} {o : Oper} {ac : Act} {w : World} {K : Act → World → Prop} (a : Int) (x0 : Operand) (ho : o.op = .buildSlice 22 1 #[(0, x0)]) (e0 : ac.eval x0 = .int .u8 a) (h : K (ac.put o.dst (.slice (some ⟨w.heap.size, 0, none⟩) 1 1)) (w.alloc (.cells #[.int .u8 a] 5))) : Oper.wp Tryz.prog o ac w K Q := by
  refine wp_of_run ?_ h
  have := run_byte1 a w
  unfold execOp
  simp only [ho, List.map_toArray, List.map_cons, List.map_nil, e0, Sem.run_bind, this, Result.andThen_ok, Sem.run_pure]
theorem wp_conv1 {Q : Exit → Act → World → Prop} {o : Oper} {ac : Act} {w : World} {K : Act → World → Prop} (c : UInt8) (g : Nat) (x : Operand) (ho : o.op = .convert 22 9 x) (e0 : ac.eval x = .slice (some ⟨g, 0, none⟩) 1 1) (hc : w.cell? ⟨g, 0, none⟩ = some (.int .u8 (c.toNat : Int))) (h : K (ac.put o.dst (.string ⟨#[c]⟩)) w) : Oper.wp Tryz.prog o ac w K Q := by
  refine wp_of_run ?_ h
  have := run_convert_bytes_back (P := Tryz.prog) w 22 9 5 ⟨g, 0, none⟩ 1 [c] (by kernel_rfl) (by kernel_rfl) (by kernel_rfl) (fun j hj => by
    have hj0 : j = 0 := by simpa using hj
    subst hj0
    rw [Addr.add_lit]
    exact hc)
  simp only [List.length_singleton] at this
  unfold execOp
  simp only [ho, e0, Sem.run_bind, this, Result.andThen_ok, Sem.run_pure]

set_option maxRecDepth 100000 in
set_option maxHeartbeats 4000000 in
theorem num_any : ∀ (n : Nat), n < 10000000 → ∀ w, Calls Tryz.prog 67 #[.int .i64 (n : Int)] w fun e w' => e = .returned (.string (txt n)) ∧ Below w.heap.size w w' := by
  intro n
  induction n using Nat.strongRecOn with
  | ind n ih =>
    intro hn w
    have hu : ((UInt8.ofNat (48 + n % 10)).toNat : Int) = 48 + (n : Int) % 10 := by
      rw [UInt8.toNat_ofNat_of_lt' (show 48 + n % 10 < 256 by omega)]; omega
    have HU := hide hu
    clear hu
    by_cases h : n < 10
    · have h1 : ((n : Int) < 10) = True := by simp; omega
      have hm : n % 10 = n := by omega
      have HM := hide hm
      have e3 : IntKind.u8.wrap (48 + (n : Int)) = 48 + (n : Int) := by rw [IntKind.wrap_u8]; omega
      have hcv := run_convert_bytes_back (P := Tryz.prog) (w.alloc (.cells #[.int .u8 (48 + (n : Int))] 5)) 22 9 5 ⟨w.heap.size, 0, none⟩ 1 [UInt8.ofNat (48 + n % 10)] (by kernel_rfl) (by kernel_rfl) (by kernel_rfl) (fun j hj => by
        have hj0 : j = 0 := by simpa using hj
        subst hj0
        rw [Addr.add_lit]
        show (w.alloc (.cells #[.int .u8 (48 + (n : Int))] 5)).cell? ⟨w.heap.size, 0 + 0, none⟩ = some (.int .u8 ((UInt8.ofNat (48 + n % 10)).toNat : Int))
        rw [HU.out, show (48 : Int) + (n : Int) % 10 = 48 + (n : Int) by omega]
        exact (Row.new w #[.int .u8 (48 + (n : Int))] 5).2.1 0 _ rfl)
      simp only [List.length_singleton] at hcv
      clear hm
      go_enter Tryz.func67, Tryz.ntmps67
      go_wp2
      go_ret
      exact ⟨by show Ending.returned (.string ⟨#[48 + UInt8.ofNat (n % 10)]⟩) = _; rw [HM.out, txt_one h, UInt8.ofNat_add]; rfl, below_alloc (Below.refl _ _) _⟩
    · have h1 : ((n : Int) < 10) = False := by simp; omega
      have ih0 := fun W => ih (n / 10) (by omega) (by omega) W
      rw [show (((n / 10 : Nat)) : Int) = (n : Int) / 10 by omega] at ih0
      have ih1 := hide ih0
      have HS := hide (txt_size (n / 10) (by omega))
      have HM := hide (txt_more h)
      clear ih ih0
      go_enter Tryz.func67, Tryz.ntmps67
      go_wp2_with fail
      refine wpAnyS_start (fun _ => True) (n := 11) (by kernel_rfl) rfl rfl ?_
      refine wpAnyS_take_allE [0, 1, 3, 4, 5, 6] 5 rfl (by kernel_rfl) (by intro c a d v w h; cases d <;> exact h) (by kernel_rfl) (by simp; rfl) rfl trivial ?_
      repeat (go_big_quiet_step (fail))
      refine wpQuiet_nil ?_
      have HB : Hid (Below w.heap.size w w.drew) := hide (Below.refl _ _).drew
      generalize w.drew = V0 at *
      refine wpAnyN_two 2 7 (by kernel_rfl) (by simp; rfl) (by simp; rfl) rfl rfl rfl rfl (fun K hK => ?_) (fun K hK => ?_)
      · go_wp2_with fail
        refine (ih1.out _).mono ?_
        rintro e V1 ⟨rfl, hb⟩
        replace HB := hide (below_step HB.out hb)
        clear hb
        go_wp2_with fail
        refine ⟨trivial, ?_⟩
        refine wpAnyS_only 7 (by kernel_rfl) (by simp; rfl) rfl rfl (fun K hK => ?_)
        have HR := hide (Row.new V1 #[.int .u8 (48 + (n : Int) % 10)] 5)
        replace HB := hide (below_alloc HB.out (.cells #[.int .u8 (48 + (n : Int) % 10)] 5))
        refine wp_byte1 (48 + (n : Int) % 10) (.tmp 16) rfl rfl (hK _ _ ⟨trivial, ?_⟩)
        simp only [Act.put, List.setIfInBounds_toArray, List.set_cons_succ, List.set_cons_zero]
        generalize V1.alloc (.cells #[.int .u8 (48 + (n : Int) % 10)] 5) = V2 at *
        generalize V1.heap.size = lb at *
        refine wpAnyS_only 8 (by kernel_rfl) (by simp; rfl) rfl rfl (fun K hK => ?_)
        refine wp_conv1 (UInt8.ofNat (48 + n % 10)) lb (.tmp 17) rfl rfl (by rw [HU.out]; exact HR.out.2.1 0 _ rfl) (hK _ _ ⟨trivial, ?_⟩)
        simp only [Act.put, List.setIfInBounds_toArray, List.set_cons_succ, List.set_cons_zero]
        clear HR
        have hs := HS.out
        refine wpAnyS_take_allE [9, 10] 0 rfl (by kernel_rfl) (by intro c a d v w h; cases d <;> exact h) (by kernel_rfl) (by simp; rfl) rfl trivial ?_
        repeat (go_big_quiet_step (fail))
        refine wpQuiet_nil ?_
        refine wpAnyH_done (by kernel_rfl) ?_ _
        clear hs
        go_wp2
        go_ret
        exact ⟨by rw [HM.out, UInt8.ofNat_add]; rfl, HB.out⟩
      · have HR := hide (Row.new V0 #[.int .u8 (48 + (n : Int) % 10)] 5)
        replace HB := hide (below_alloc HB.out (.cells #[.int .u8 (48 + (n : Int) % 10)] 5))
        refine wp_byte1 (48 + (n : Int) % 10) (.tmp 16) rfl rfl (hK _ _ ⟨trivial, ?_⟩)
        simp only [Act.put, List.setIfInBounds_toArray, List.set_cons_succ, List.set_cons_zero]
        generalize V0.alloc (.cells #[.int .u8 (48 + (n : Int) % 10)] 5) = V1 at *
        generalize V0.heap.size = lb at *
        refine wpAnyN_two 2 8 (by kernel_rfl) (by simp; rfl) (by simp; rfl) rfl rfl rfl rfl (fun K hK => ?_) (fun K hK => ?_)
        · go_wp2_with fail
          refine (ih1.out _).mono ?_
          rintro e V2 ⟨rfl, hb⟩
          replace HB := hide (below_step HB.out hb)
          replace HR := hide (HR.out.below hb)
          clear hb
          go_wp2_with fail
          refine ⟨trivial, ?_⟩
          refine wpAnyS_only 8 (by kernel_rfl) (by simp; rfl) rfl rfl (fun K hK => ?_)
          refine wp_conv1 (UInt8.ofNat (48 + n % 10)) lb (.tmp 17) rfl rfl (by rw [HU.out]; exact HR.out.2.1 0 _ rfl) (hK _ _ ⟨trivial, ?_⟩)
          simp only [Act.put, List.setIfInBounds_toArray, List.set_cons_succ, List.set_cons_zero]
          clear HR
          have hs := HS.out
          refine wpAnyS_take_allE [9, 10] 0 rfl (by kernel_rfl) (by intro c a d v w h; cases d <;> exact h) (by kernel_rfl) (by simp; rfl) rfl trivial ?_
          repeat (go_big_quiet_step (fail))
          refine wpQuiet_nil ?_
          refine wpAnyH_done (by kernel_rfl) ?_ _
          clear hs
          go_wp2
          go_ret
          exact ⟨by rw [HM.out, UInt8.ofNat_add]; rfl, HB.out⟩
        · refine wp_conv1 (UInt8.ofNat (48 + n % 10)) lb (.tmp 17) rfl rfl (by rw [HU.out]; exact HR.out.2.1 0 _ rfl) (hK _ _ ⟨trivial, ?_⟩)
          simp only [Act.put, List.setIfInBounds_toArray, List.set_cons_succ, List.set_cons_zero]
          clear HR
          refine wpAnyS_only 2 (by kernel_rfl) (by simp; rfl) rfl rfl (fun K hK => ?_)
          go_wp2_with fail
          refine (ih1.out _).mono ?_
          rintro e V2 ⟨rfl, hb⟩
          replace HB := hide (below_step HB.out hb)
          clear hb
          go_wp2_with fail
          refine ⟨trivial, ?_⟩
          have hs := HS.out
          refine wpAnyS_take_allE [9, 10] 0 rfl (by kernel_rfl) (by intro c a d v w h; cases d <;> exact h) (by kernel_rfl) (by simp; rfl) rfl trivial ?_
          repeat (go_big_quiet_step (fail))
          refine wpQuiet_nil ?_
          refine wpAnyH_done (by kernel_rfl) ?_ _
          clear hs
          go_wp2
          go_ret
          exact ⟨by rw [HM.out, UInt8.ofNat_add]; rfl, HB.out⟩
end Go.Proofs.YtfcpgpmhjadanaaGreatDoor
