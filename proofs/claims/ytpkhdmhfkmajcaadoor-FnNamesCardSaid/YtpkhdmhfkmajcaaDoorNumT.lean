/- Numbers in decimal: the reference's way and the library's. -/
import Derived.Test.YtpkhdmhfkmajcaaDoorSmall
import Derived.Test.YtpkhdmhfkmajcaaDoorRegions
import Derived.Test.YtpkhdmhfkmajcaaDoorOwn
import Derived.Test.YtpkhdmhfkmajcaaDoorShelf
import Derived.Test.YtpkhdmhfkmajcaaDoorRegionsE
import Derived.Laws.IdiomStrings
import Derived.Lib.ItoaLen
import Derived.Lib.ItoaMem
import Derived.Lib.ItoaNum
namespace Go.Proofs.YtpkhdmhfkmajcaaDoor
open Go.RowKit
set_option linter.unusedVariables false

section
variable {P : Program} {ops : Array Oper} {Q : Exit → Act → World → Prop} {md : Region.Mode} {S : World → Prop}
/-- Two operations may come up: either. -/
theorem wpAnyN_two (i j : Nat) {oi oj : Oper} {fuel : Nat} {listed li lj : Array Bool} {a : Act} {w : World} (hr : Region.ready md ops listed = [i, j]) (hoi : ops[i]? = some oi) (hoj : ops[j]? = some oj) (hLi : listed.setIfInBounds i true = li) (hLj : listed.setIfInBounds j true = lj) (hgi : oi.guard = none) (hgj : oj.guard = none)
    (h1 : ∀ K : Act → World → Prop, (∀ a w', (S w' ∧ wpAnyH P md ops Q S fuel li a w') → K a w') → Oper.wp P oi a w K Q)
    (h2 : ∀ K : Act → World → Prop, (∀ a w', (S w' ∧ wpAnyH P md ops Q S fuel lj a w') → K a w') → Oper.wp P oj a w K Q) :
    wpAnyH P md ops Q S (fuel + 1) listed a w := by
  refine wpAnyH_all hr (by simp) fun k hk => ?_
  simp only [List.mem_cons, List.not_mem_nil, or_false] at hk
  rcases hk with rfl | rfl
  · refine wpOp_step hoi (fun K' hK => ?_)
    rw [if_pos (by simp [Region.wanted, hgi])]
    refine h1 K' (fun a' w' ⟨hS, hW⟩ => hK _ _ ⟨hS, ?_⟩)
    rw [hLi]
    exact hW
  · refine wpOp_step hoj (fun K' hK => ?_)
    rw [if_pos (by simp [Region.wanted, hgj])]
    refine h2 K' (fun a' w' ⟨hS, hW⟩ => hK _ _ ⟨hS, ?_⟩)
    rw [hLj]
    exact hW
end
/-- A number's text. -/
def txt (n : Nat) : ByteArray := ⟨(Lib.decDigits n).toArray⟩
def chr (c : UInt8) : ByteArray := ⟨#[c]⟩
theorem txt_size (n : Nat) (h : n ≤ 9223372036854775807) : (txt n).size ≤ 21 := by
  have h1 := Lib.itoa_length_le (n : Int) (by omega) (by omega)
  rw [Lib.itoa_nonneg] at h1
  show (Lib.decDigits n).toArray.size ≤ 21
  simpa using h1
theorem txt_one {n : Nat} (h : n < 10) : txt n = ⟨#[UInt8.ofNat (48 + n)]⟩ := by rw [txt, Lib.decDigits_one h]
theorem txt_more {n : Nat} (h : ¬ n < 10) : txt n = txt (n / 10) ++ ⟨#[UInt8.ofNat (48 + n % 10)]⟩ := by
  rw [txt, Lib.decDigits, dif_neg h, txt]
  apply ByteArray.ext
  simp [ByteArray.data_append]
theorem below_grow (w : World) (k : Nat) (os : Array Obj) : Below w.heap.size w (Sort.grow (w.drewN k) os) := by
  refine ⟨rfl, rfl, rfl, ?_, fun i hi => ?_⟩
  · simp [Sort.grow, World.drewN]
  · show (w.heap ++ os)[i]? = w.heap[i]?
    rw [Array.getElem?_append_left hi]
/-- The table that Itoa reads. -/
def Tab (w : World) : Prop := Lib.TabIs Tryd.prog w "internal/strconv.uint64pow10" .u64 Lib.pow10Tab
set_option maxHeartbeats 1000000 in
theorem itoa_any (n : Nat) (h : n ≤ 9223372036854775807) (w : World) (ht : Tab w) :
    Calls Tryd.prog 54 #[.int .i64 (n : Int)] w fun e w' => e = .returned (.string (txt n)) ∧ Below w.heap.size w w' :=
  (Tryd.strconv_Itoa (n : Int) (by omega) (by omega) w ht).mono fun e w' ⟨he, k, os, hw⟩ => ⟨by rw [he, Lib.itoa_nonneg]; rfl, by rw [hw]; exact below_grow w k os⟩
theorem tab_below {w w' : World} (h : Tab w) (hb : Below w.heap.size w w') : Tab w' := by
  have hg : (Tryd.prog.globalNamed "internal/strconv.uint64pow10").isSome = true := by kernel_rfl
  obtain ⟨g, hg⟩ := Option.isSome_iff_exists.1 hg
  unfold Tab Lib.TabIs World.var? at h ⊢
  rw [hg] at h ⊢
  simp only [Option.bind_some] at h ⊢
  have hlt : g < w.heap.size := by
    rcases Nat.lt_or_ge g w.heap.size with h' | h'
    · exact h'
    · rw [Array.getElem?_eq_none h'] at h; cases h
  rw [hb.block g hlt]
  exact h
theorem run_byte1 (a : Int) (w : World) : (Instr.buildSlice 22 1 #[(0, .int .u8 a)]).run Tryd.prog w = .ok (.slice (some ⟨w.heap.size, 0, none⟩) 1 1) (w.alloc (.cells #[.int .u8 a] 5)) := by kernel_rfl
theorem wp_of_run {P : Program} {Q : Exit → Act → World → Prop} {o : Oper} {a : Act} {w w' : World} {K : Act → World → Prop} {v : Value} (hrun : (execOp a.eval o).run P w = .ok (.value v) w') (h : K (a.put o.dst v) w') : Oper.wp P o a w K Q := by
  unfold Oper.wp
  rw [hrun]
  exact h
theorem wp_byte1 {Q : Exit → Act → World → Prop} {o : Oper} {ac : Act} {w : World} {K : Act → World → Prop} (a : Int) (x0 : Operand) (ho : o.op = .buildSlice 22 1 #[(0, x0)]) (e0 : ac.eval x0 = .int .u8 a) (h : K (ac.put o.dst (.slice (some ⟨w.heap.size, 0, none⟩) 1 1)) (w.alloc (.cells #[.int .u8 a] 5))) : Oper.wp Tryd.prog o ac w K Q := by
  refine wp_of_run ?_ h
  have := run_byte1 a w
  unfold execOp
  simp only [ho, List.map_toArray, List.map_cons, List.map_nil, e0, Sem.run_bind, this, Result.andThen_ok, Sem.run_pure]
theorem wp_conv1 {Q : Exit → Act → World → Prop} {o : Oper} {ac : Act} {w : World} {K : Act → World → Prop} (c : UInt8) (g : Nat) (x : Operand) (ho : o.op = .convert 22 9 x) (e0 : ac.eval x = .slice (some ⟨g, 0, none⟩) 1 1) (hc : w.cell? ⟨g, 0, none⟩ = some (.int .u8 (c.toNat : Int))) (h : K (ac.put o.dst (.string ⟨#[c]⟩)) w) : Oper.wp Tryd.prog o ac w K Q := by
  refine wp_of_run ?_ h
  have := run_convert_bytes_back (P := Tryd.prog) w 22 9 5 ⟨g, 0, none⟩ 1 [c] (by kernel_rfl) (by kernel_rfl) (by kernel_rfl) (fun j hj => by
    have hj0 : j = 0 := by simpa using hj
    subst hj0
    rw [Addr.add_lit]
    exact hc)
  simp only [List.length_singleton] at this
  unfold execOp
  simp only [ho, e0, Sem.run_bind, this, Result.andThen_ok, Sem.run_pure]

end Go.Proofs.YtpkhdmhfkmajcaaDoor
