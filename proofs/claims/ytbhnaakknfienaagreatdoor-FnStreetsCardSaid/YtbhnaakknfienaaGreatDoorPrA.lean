/- Several texts in one. Numbers in decimal: the reference's way and the library's. Reading texts: the plain side: cuts at a byte, numbers. Reading numbers: the plain side. The reference reads a number. The reference cuts a text at a byte. The program reads a number. Cuts and fields of texts: the plain side. Reading texts: the plain side: what all parsers share. What the program's reading of texts leans on: the library's tables and variables, and its cuts. A text's words: the plain side. The program's words of a text. A town's text: both sides. A town's text read: the plain side: both ways read back the text of every town. A town's text read: the plain side: both ways agree. -/
import Derived.Test.YtbhnaakknfienaaGreatDoorSmall
import Derived.Test.YtbhnaakknfienaaGreatDoorRegions
import Derived.Test.YtbhnaakknfienaaGreatDoorOwn
import Derived.Test.YtbhnaakknfienaaGreatDoorShelf
import Derived.Test.YtbhnaakknfienaaGreatDoorRegionsE
import Derived.Test.YtbhnaakknfienaaGreatDoorTownV
import Derived.Laws.IdiomStrings
import Derived.Lib.ItoaLen
import Derived.Lib.ItoaMem
import Derived.Lib.ItoaNum
import Derived.Lib.SplitLaws
import Derived.Lib.FieldsLaws
import Derived.Lib.AtoiAll
import Derived.Lib.AtoiErrMem
import Derived.Lib.CutLaws
import Derived.Shelf.Strings.FieldsAny
import Derived.Deep.LoopGhost
namespace Go.Proofs.YtbhnaakknfienaaGreatDoor
open Go.RowKit
set_option linter.unusedVariables false

section
variable {P : Program} {ops : Array Oper} {Q : Exit → Act → World → Prop} {md : Region.Mode} {S : World → Prop}
/-- Two operations may come up: either. -/
theorem wpAnyN_two (i j : Nat) {oi oj : Oper} {fuel : Nat} {listed li lj : Array Bool} {a : Act} {w : World} (hr : Region.ready md ops listed = [i, j]) (hoi : ops[i]? = some oi) (hoj : ops[j]? = some oj) (hLi : listed.setIfInBounds i true = li) (hLj : listed.setIfInBounds j true = lj) (hgi : oi.guard = none) (hgj : oj.guard = none)
    (h1 : ∀ K : Act → World → Prop, (∀ a w', (S w' ∧ wpAnyH P md ops Q S fuel li a w') → K a w') → Oper.wp P oi a w K Q)
    (h2 : ∀ K : Act → World → Prop, (∀ a w', (S w' ∧ wpAnyH P md ops Q S fuel lj a w') → K a w') → Oper.wp P oj a w K Q) :
    wpAnyH P md ops Q S (fuel + 1) listed a w := by
  refine wpAnyH_all hr (by simp) fun k hk => ?_
  simp only [List.mem_cons, List.not_mem_nil, or_false] at hk
  rcases hk with rfl | rfl
  · refine wpOp_step hoi (fun K' hK => ?_)
    rw [if_pos (by simp [Region.wanted, hgi])]
    refine h1 K' (fun a' w' ⟨hS, hW⟩ => hK _ _ ⟨hS, ?_⟩)
    rw [hLi]
    exact hW
  · refine wpOp_step hoj (fun K' hK => ?_)
    rw [if_pos (by simp [Region.wanted, hgj])]
    refine h2 K' (fun a' w' ⟨hS, hW⟩ => hK _ _ ⟨hS, ?_⟩)
    rw [hLj]
    exact hW
end
/-- A number's text. -/
def txt (n : Nat) : ByteArray := ⟨(Lib.decDigits n).toArray⟩
def chr (c : UInt8) : ByteArray := ⟨#[c]⟩
theorem txt_size (n : Nat) (h : n ≤ 9223372036854775807) : (txt n).size ≤ 21 := by
  have h1 := Lib.itoa_length_le (n : Int) (by omega) (by omega)
  rw [Lib.itoa_nonneg] at h1
  show (Lib.decDigits n).toArray.size ≤ 21
  simpa using h1
theorem txt_one {n : Nat} (h : n < 10) : txt n = ⟨#[UInt8.ofNat (48 + n)]⟩ := by rw [txt, Lib.decDigits_one h]
theorem txt_more {n : Nat} (h : ¬ n < 10) : txt n = txt (n / 10) ++ ⟨#[UInt8.ofNat (48 + n % 10)]⟩ := by
  rw [txt, Lib.decDigits, dif_neg h, txt]
  apply ByteArray.ext
  simp [ByteArray.data_append]
theorem below_grow (w : World) (k : Nat) (os : Array Obj) : Below w.heap.size w (Sort.grow (w.drewN k) os) := by
  refine ⟨rfl, rfl, rfl, ?_, fun i hi => ?_⟩
  · simp [Sort.grow, World.drewN]
  · show (w.heap ++ os)[i]? = w.heap[i]?
    rw [Array.getElem?_append_left hi]
/-- The table that Itoa reads. -/
def Tab (w : World) : Prop := Lib.TabIs Tryz.prog w "internal/strconv.uint64pow10" .u64 Lib.pow10Tab
set_option maxHeartbeats 1000000 in
theorem itoa_any (n : Nat) (h : n ≤ 9223372036854775807) (w : World) (ht : Tab w) :
    Calls Tryz.prog 84 #[.int .i64 (n : Int)] w fun e w' => e = .returned (.string (txt n)) ∧ Below w.heap.size w w' :=
  (Tryz.strconv_Itoa (n : Int) (by omega) (by omega) w ht).mono fun e w' ⟨he, k, os, hw⟩ => ⟨by rw [he, Lib.itoa_nonneg]; rfl, by rw [hw]; exact below_grow w k os⟩
theorem tab_below {w w' : World} (h : Tab w) (hb : Below w.heap.size w w') : Tab w' := by
  have hg : (Tryz.prog.globalNamed "internal/strconv.uint64pow10").isSome = true := by kernel_rfl
  obtain ⟨g, hg⟩ := Option.isSome_iff_exists.1 hg
  unfold Tab Lib.TabIs World.var? at h ⊢
  rw [hg] at h ⊢
  simp only [Option.bind_some] at h ⊢
  have hlt : g < w.heap.size := by
    rcases Nat.lt_or_ge g w.heap.size with h' | h'
    · exact h'
    · rw [Array.getElem?_eq_none h'] at h; cases h
  rw [hb.block g hlt]
  exact h
theorem run_byte1 (a : Int) (w : World) : (Instr.buildSlice 22 1 #[(0, .int .u8 a)]).run Tryz.prog w = .ok (.slice (some ⟨w.heap.size, 0, none⟩) 1 1) (w.alloc (.cells #[.int .u8 a] 5)) := by kernel_rfl
theorem wp_of_runT {P : Program} {Q : Exit → Act → World → Prop} {o : Oper} {a : Act} {w w' : World} {K : Act → World → Prop} {v : Value} (hrun : (execOp a.eval o).run P w = .ok (.value v) w') (h : K (a.put o.dst v) w') : Oper.wp P o a w K Q := by
  unfold Oper.wp
  rw [hrun]
  exact h
theorem wp_byte1 {Q : Exit → Act → World → Prop} {o : Oper} {ac : Act} {w : World} {K : Act → World → Prop} (a : Int) (x0 : Operand) (ho : o.op = .buildSlice 22 1 #[(0, x0)]) (e0 : ac.eval x0 = .int .u8 a) (h : K (ac.put o.dst (.slice (some ⟨w.heap.size, 0, none⟩) 1 1)) (w.alloc (.cells #[.int .u8 a] 5))) : Oper.wp Tryz.prog o ac w K Q := by
  refine wp_of_runT ?_ h
  have := run_byte1 a w
  unfold execOp
  simp only [ho, List.map_toArray, List.map_cons, List.map_nil, e0, Sem.run_bind, this, Result.andThen_ok, Sem.run_pure]
theorem wp_conv1 {Q : Exit → Act → World → Prop} {o : Oper} {ac : Act} {w : World} {K : Act → World → Prop} (c : UInt8) (g : Nat) (x : Operand) (ho : o.op = .convert 22 9 x) (e0 : ac.eval x = .slice (some ⟨g, 0, none⟩) 1 1) (hc : w.cell? ⟨g, 0, none⟩ = some (.int .u8 (c.toNat : Int))) (h : K (ac.put o.dst (.string ⟨#[c]⟩)) w) : Oper.wp Tryz.prog o ac w K Q := by
  refine wp_of_runT ?_ h
  have := run_convert_bytes_back (P := Tryz.prog) w 22 9 5 ⟨g, 0, none⟩ 1 [c] (by kernel_rfl) (by kernel_rfl) (by kernel_rfl) (fun j hj => by
    have hj0 : j = 0 := by simpa using hj
    subst hj0
    rw [Addr.add_lit]
    exact hc)
  simp only [List.length_singleton] at this
  unfold execOp
  simp only [ho, e0, Sem.run_bind, this, Result.andThen_ok, Sem.run_pure]

set_option maxRecDepth 100000 in
set_option maxHeartbeats 4000000 in
theorem num_any : ∀ (n : Nat), n < 10000000 → ∀ w, Calls Tryz.prog 85 #[.int .i64 (n : Int)] w fun e w' => e = .returned (.string (txt n)) ∧ Below w.heap.size w w' := by
  intro n
  induction n using Nat.strongRecOn with
  | ind n ih =>
    intro hn w
    have hu : ((UInt8.ofNat (48 + n % 10)).toNat : Int) = 48 + (n : Int) % 10 := by
      rw [UInt8.toNat_ofNat_of_lt' (show 48 + n % 10 < 256 by omega)]; omega
    have HU := hide hu
    clear hu
    by_cases h : n < 10
    · have h1 : ((n : Int) < 10) = True := by simp; omega
      have hm : n % 10 = n := by omega
      have HM := hide hm
      have e3 : IntKind.u8.wrap (48 + (n : Int)) = 48 + (n : Int) := by rw [IntKind.wrap_u8]; omega
      have hcv := run_convert_bytes_back (P := Tryz.prog) (w.alloc (.cells #[.int .u8 (48 + (n : Int))] 5)) 22 9 5 ⟨w.heap.size, 0, none⟩ 1 [UInt8.ofNat (48 + n % 10)] (by kernel_rfl) (by kernel_rfl) (by kernel_rfl) (fun j hj => by
        have hj0 : j = 0 := by simpa using hj
        subst hj0
        rw [Addr.add_lit]
        show (w.alloc (.cells #[.int .u8 (48 + (n : Int))] 5)).cell? ⟨w.heap.size, 0 + 0, none⟩ = some (.int .u8 ((UInt8.ofNat (48 + n % 10)).toNat : Int))
        rw [HU.out, show (48 : Int) + (n : Int) % 10 = 48 + (n : Int) by omega]
        exact (Row.new w #[.int .u8 (48 + (n : Int))] 5).2.1 0 _ rfl)
      simp only [List.length_singleton] at hcv
      clear hm
      go_enter Tryz.func85, Tryz.ntmps85
      go_wp2
      go_ret
      exact ⟨by show Ending.returned (.string ⟨#[48 + UInt8.ofNat (n % 10)]⟩) = _; rw [HM.out, txt_one h, UInt8.ofNat_add]; rfl, below_alloc (Below.refl _ _) _⟩
    · have h1 : ((n : Int) < 10) = False := by simp; omega
      have ih0 := fun W => ih (n / 10) (by omega) (by omega) W
      rw [show (((n / 10 : Nat)) : Int) = (n : Int) / 10 by omega] at ih0
      have ih1 := hide ih0
      have HS := hide (txt_size (n / 10) (by omega))
      have HM := hide (txt_more h)
      clear ih ih0
      go_enter Tryz.func85, Tryz.ntmps85
      go_wp2_with fail
      refine wpAnyS_start (fun _ => True) (n := 11) (by kernel_rfl) rfl rfl ?_
      refine wpAnyS_take_allE [0, 1, 3, 4, 5, 6] 5 rfl (by kernel_rfl) (by intro c a d v w h; cases d <;> exact h) (by kernel_rfl) (by simp; rfl) rfl trivial ?_
      repeat (go_big_quiet_step (fail))
      refine wpQuiet_nil ?_
      have HB : Hid (Below w.heap.size w w.drew) := hide (Below.refl _ _).drew
      generalize w.drew = V0 at *
      refine wpAnyN_two 2 7 (by kernel_rfl) (by simp; rfl) (by simp; rfl) rfl rfl rfl rfl (fun K hK => ?_) (fun K hK => ?_)
      · go_wp2_with fail
        refine (ih1.out _).mono ?_
        rintro e V1 ⟨rfl, hb⟩
        replace HB := hide (below_step HB.out hb)
        clear hb
        go_wp2_with fail
        refine ⟨trivial, ?_⟩
        refine wpAnyS_only 7 (by kernel_rfl) (by simp; rfl) rfl rfl (fun K hK => ?_)
        have HR := hide (Row.new V1 #[.int .u8 (48 + (n : Int) % 10)] 5)
        replace HB := hide (below_alloc HB.out (.cells #[.int .u8 (48 + (n : Int) % 10)] 5))
        refine wp_byte1 (48 + (n : Int) % 10) (.tmp 16) rfl rfl (hK _ _ ⟨trivial, ?_⟩)
        simp only [Act.put, List.setIfInBounds_toArray, List.set_cons_succ, List.set_cons_zero]
        generalize V1.alloc (.cells #[.int .u8 (48 + (n : Int) % 10)] 5) = V2 at *
        generalize V1.heap.size = lb at *
        refine wpAnyS_only 8 (by kernel_rfl) (by simp; rfl) rfl rfl (fun K hK => ?_)
        refine wp_conv1 (UInt8.ofNat (48 + n % 10)) lb (.tmp 17) rfl rfl (by rw [HU.out]; exact HR.out.2.1 0 _ rfl) (hK _ _ ⟨trivial, ?_⟩)
        simp only [Act.put, List.setIfInBounds_toArray, List.set_cons_succ, List.set_cons_zero]
        clear HR
        have hs := HS.out
        refine wpAnyS_take_allE [9, 10] 0 rfl (by kernel_rfl) (by intro c a d v w h; cases d <;> exact h) (by kernel_rfl) (by simp; rfl) rfl trivial ?_
        repeat (go_big_quiet_step (fail))
        refine wpQuiet_nil ?_
        refine wpAnyH_done (by kernel_rfl) ?_ _
        clear hs
        go_wp2
        go_ret
        exact ⟨by rw [HM.out, UInt8.ofNat_add]; rfl, HB.out⟩
      · have HR := hide (Row.new V0 #[.int .u8 (48 + (n : Int) % 10)] 5)
        replace HB := hide (below_alloc HB.out (.cells #[.int .u8 (48 + (n : Int) % 10)] 5))
        refine wp_byte1 (48 + (n : Int) % 10) (.tmp 16) rfl rfl (hK _ _ ⟨trivial, ?_⟩)
        simp only [Act.put, List.setIfInBounds_toArray, List.set_cons_succ, List.set_cons_zero]
        generalize V0.alloc (.cells #[.int .u8 (48 + (n : Int) % 10)] 5) = V1 at *
        generalize V0.heap.size = lb at *
        refine wpAnyN_two 2 8 (by kernel_rfl) (by simp; rfl) (by simp; rfl) rfl rfl rfl rfl (fun K hK => ?_) (fun K hK => ?_)
        · go_wp2_with fail
          refine (ih1.out _).mono ?_
          rintro e V2 ⟨rfl, hb⟩
          replace HB := hide (below_step HB.out hb)
          replace HR := hide (HR.out.below hb)
          clear hb
          go_wp2_with fail
          refine ⟨trivial, ?_⟩
          refine wpAnyS_only 8 (by kernel_rfl) (by simp; rfl) rfl rfl (fun K hK => ?_)
          refine wp_conv1 (UInt8.ofNat (48 + n % 10)) lb (.tmp 17) rfl rfl (by rw [HU.out]; exact HR.out.2.1 0 _ rfl) (hK _ _ ⟨trivial, ?_⟩)
          simp only [Act.put, List.setIfInBounds_toArray, List.set_cons_succ, List.set_cons_zero]
          clear HR
          have hs := HS.out
          refine wpAnyS_take_allE [9, 10] 0 rfl (by kernel_rfl) (by intro c a d v w h; cases d <;> exact h) (by kernel_rfl) (by simp; rfl) rfl trivial ?_
          repeat (go_big_quiet_step (fail))
          refine wpQuiet_nil ?_
          refine wpAnyH_done (by kernel_rfl) ?_ _
          clear hs
          go_wp2
          go_ret
          exact ⟨by rw [HM.out, UInt8.ofNat_add]; rfl, HB.out⟩
        · refine wp_conv1 (UInt8.ofNat (48 + n % 10)) lb (.tmp 17) rfl rfl (by rw [HU.out]; exact HR.out.2.1 0 _ rfl) (hK _ _ ⟨trivial, ?_⟩)
          simp only [Act.put, List.setIfInBounds_toArray, List.set_cons_succ, List.set_cons_zero]
          clear HR
          refine wpAnyS_only 2 (by kernel_rfl) (by simp; rfl) rfl rfl (fun K hK => ?_)
          go_wp2_with fail
          refine (ih1.out _).mono ?_
          rintro e V2 ⟨rfl, hb⟩
          replace HB := hide (below_step HB.out hb)
          clear hb
          go_wp2_with fail
          refine ⟨trivial, ?_⟩
          have hs := HS.out
          refine wpAnyS_take_allE [9, 10] 0 rfl (by kernel_rfl) (by intro c a d v w h; cases d <;> exact h) (by kernel_rfl) (by simp; rfl) rfl trivial ?_
          repeat (go_big_quiet_step (fail))
          refine wpQuiet_nil ?_
          refine wpAnyH_done (by kernel_rfl) ?_ _
          clear hs
          go_wp2
          go_ret
          exact ⟨by rw [HM.out, UInt8.ofNat_add]; rfl, HB.out⟩
end Go.Proofs.YtbhnaakknfienaaGreatDoor
namespace Go.Proofs.YtbhnaakknfienaaGreatDoor
open Go.RowKit
set_option linter.unusedVariables false

/-- A text's pieces between the places of a byte. -/
def splitL (b : UInt8) : List UInt8 → List (List UInt8)
  | [] => [[]]
  | c :: r => if c = b then [] :: splitL b r else (c :: (splitL b r).headD []) :: (splitL b r).tail
theorem splitL_ne (b : UInt8) : ∀ l, splitL b l ≠ []
  | [] => by simp [splitL]
  | c :: r => by rw [splitL]; split <;> simp
theorem splitL_form (b : UInt8) (l : List UInt8) : splitL b l = (splitL b l).headD [] :: (splitL b l).tail := by
  cases h : splitL b l with
  | nil => exact absurd h (splitL_ne b l)
  | cons x y => rfl
theorem splitL_none {b : UInt8} : ∀ {l : List UInt8}, (∀ x ∈ l, x ≠ b) → splitL b l = [l]
  | [], _ => rfl
  | c :: r, h => by
    rw [splitL, if_neg (h c (List.mem_cons_self ..)), splitL_none (l := r) (fun x hx => h x (List.mem_cons_of_mem _ hx))]
    rfl
theorem splitL_cut {b : UInt8} (r : List UInt8) : ∀ {p : List UInt8}, (∀ x ∈ p, x ≠ b) → splitL b (p ++ b :: r) = p :: splitL b r
  | [], _ => by simp [splitL]
  | c :: p, h => by
    rw [List.cons_append, splitL, if_neg (h c (List.mem_cons_self ..)), splitL_cut r (p := p) (fun x hx => h x (List.mem_cons_of_mem _ hx))]
    rfl
/-- Pieces that end with the byte, each. -/
theorem splitL_ends {b : UInt8} : ∀ {ps : List (List UInt8)}, (∀ p ∈ ps, ∀ x ∈ p, x ≠ b) → splitL b (ps.flatMap (· ++ [b])) = ps ++ [[]]
  | [], _ => rfl
  | p :: ps, h => by
    rw [List.flatMap_cons, List.append_assoc, List.singleton_append, splitL_cut _ (h p (List.mem_cons_self ..)), splitL_ends (ps := ps) (fun q hq => h q (List.mem_cons_of_mem _ hq))]
    rfl
/-- Pieces that begin with the byte, each, behind a first one. -/
theorem splitL_begins {b : UInt8} : ∀ {ps : List (List UInt8)} {p : List UInt8}, (∀ x ∈ p, x ≠ b) → (∀ p ∈ ps, ∀ x ∈ p, x ≠ b) → splitL b (p ++ ps.flatMap (b :: ·)) = p :: ps
  | [], p, h, _ => by simp [splitL_none h]
  | q :: ps, p, h, h2 => by
    rw [List.flatMap_cons, List.cons_append, splitL_cut _ h, splitL_begins (ps := ps) (h2 q (List.mem_cons_self ..)) (fun q hq => h2 q (List.mem_cons_of_mem _ hq))]
theorem splitL_snoc {b c : UInt8} : ∀ {l : List UInt8} {A : List (List UInt8)} {z : List UInt8}, splitL b l = A ++ [z] → splitL b (l ++ [c]) = if c = b then A ++ [z] ++ [[]] else A ++ [z ++ [c]]
  | [], A, z, h => by
    have h' : A = [] ∧ z = [] := by
      cases A with
      | nil => simpa [splitL] using h.symm
      | cons a A => have := congrArg List.length h; simp [splitL] at this
    obtain ⟨rfl, rfl⟩ := h'
    by_cases hc : c = b <;> simp [splitL, hc]
  | d :: r, A, z, h => by
    rw [splitL] at h
    rw [List.cons_append, splitL]
    by_cases hd : d = b
    · rw [if_pos hd] at h ⊢
      cases A with
      | nil =>
        simp only [List.nil_append, List.cons.injEq] at h
        exact absurd h.2 (splitL_ne b r)
      | cons a A =>
        simp only [List.cons_append, List.cons.injEq] at h
        rw [splitL_snoc (l := r) h.2, ← h.1]
        split <;> simp
    · rw [if_neg hd] at h ⊢
      have hf := splitL_form b r
      cases A with
      | nil =>
        simp only [List.nil_append, List.cons.injEq] at h
        rw [h.2] at hf
        rw [splitL_snoc (l := r) (A := []) hf, ← h.1]
        split <;> simp
      | cons a A =>
        simp only [List.cons_append, List.cons.injEq] at h
        rw [h.2] at hf
        rw [splitL_snoc (l := r) (A := (splitL b r).headD [] :: A) hf, ← h.1]
        split <;> simp

/-- The library's cut is this cut, at a separator of one byte. -/
theorem split_one (b : UInt8) : ∀ l : List UInt8, Lib.split l [b] = splitL b l
  | [] => by
    have h : Lib.index ([] : List UInt8) [b] = -1 := by simp [Lib.index]
    rw [Lib.split, Lib.count_miss h, Lib.splitK]; rfl
  | c :: r => by
    have ih := split_one b r
    rw [splitL]
    by_cases hc : c = b
    · subst hc
      have hx : Lib.index (c :: r) [c] = ((0 : Nat) : Int) := by rw [Lib.index]; simp [List.isPrefixOf]
      rw [if_pos rfl, ← ih, Lib.split, Lib.count_cons_eq, Nat.add_comm, Lib.splitK, hx, Lib.split]
      simp
    · rw [if_neg hc, ← ih]
      have hp : ([b] : List UInt8).isPrefixOf (c :: r) = false := by simp [List.isPrefixOf, Ne.symm hc]
      have hx : Lib.index (c :: r) [b] = if Lib.index r [b] == -1 then -1 else Lib.index r [b] + 1 := by rw [Lib.index, hp]; simp
      rw [Lib.split, Lib.split, Lib.count_cons_ne c b r hc]
      by_cases hm : Lib.index r [b] = -1
      · rw [Lib.count_miss hm, Lib.splitK, Lib.splitK]; rfl
      · have hge := Lib.index_ge r [b]
        obtain ⟨j, hj⟩ : ∃ j : Nat, Lib.index r [b] = j := ⟨(Lib.index r [b]).toNat, by omega⟩
        have hx' : Lib.index (c :: r) [b] = ((j + 1 : Nat) : Int) := by rw [hx, if_neg (fun e => hm (beq_iff_eq.1 e)), hj]; omega
        have n1 : ¬ ((j : Int) == -1) = true := fun e => by have := beq_iff_eq.1 e; omega
        have n2 : ¬ (((j + 1 : Nat) : Int) == -1) = true := fun e => by have := beq_iff_eq.1 e; omega
        rw [Lib.count_hit (by simp) hj, Nat.add_comm, Lib.splitK, Lib.splitK, hj, hx', if_neg n1, if_neg n2]
        simp

/-- The pieces that the reference has behind i bytes, and where the next one begins. -/
def cutD (s : ByteArray) (b : UInt8) : Nat → List ByteArray × Nat
  | 0 => ([], 0)
  | i + 1 => if s.data[i]? = some b then ((cutD s b i).1 ++ [s.extract (cutD s b i).2 i], i + 1) else cutD s b i
theorem cutD_le (s : ByteArray) (b : UInt8) : ∀ i, (cutD s b i).2 ≤ i ∧ (cutD s b i).1.length ≤ i
  | 0 => by simp [cutD]
  | i + 1 => by
    have ih := cutD_le s b i
    rw [cutD]
    split
    · simp only [List.length_append, List.length_singleton]; omega
    · omega
def splitS (s : ByteArray) (b : UInt8) : List ByteArray := (cutD s b s.size).1 ++ [s.extract (cutD s b s.size).2 s.size]
theorem extract_list (s : ByteArray) (i j : Nat) : (s.extract i j).data.toList = (s.data.toList.take j).drop i := by
  rw [ByteArray.data_extract, Array.toList_extract, List.extract_eq_take_drop, List.drop_take]
theorem cutD_split (s : ByteArray) (b : UInt8) : ∀ i, i ≤ s.size → splitL b (s.data.toList.take i) = ((cutD s b i).1.map (·.data.toList)) ++ [(s.data.toList.take i).drop (cutD s b i).2]
  | 0, _ => by simp [cutD, splitL]
  | i + 1, hi => by
    have ih := cutD_split s b i (by omega)
    have hle := (cutD_le s b i).1
    have hlt : i < s.data.toList.length := by rw [Array.length_toList]; exact hi
    have hs : s.data.toList.take (i + 1) = s.data.toList.take i ++ [s.data.toList[i]] := List.take_succ_eq_append_getElem hlt
    rw [hs, splitL_snoc ih, cutD]
    have hc : (s.data[i]? = some b) = (s.data.toList[i] = b) := by
      rw [← Array.getElem?_toList, List.getElem?_eq_getElem hlt, Option.some.injEq]
    by_cases h : s.data.toList[i] = b
    · rw [if_pos h, if_pos (hc ▸ h)]
      have hz : (s.data.toList.take i ++ [s.data.toList[i]]).drop (i + 1) = [] := List.drop_eq_nil_of_le (by simp; omega)
      simp only [List.map_append, List.map_cons, List.map_nil, extract_list, hz]
    · rw [if_neg h, if_neg (hc ▸ h)]
      rw [List.drop_append_of_le_length (by simp; omega)]
theorem splitS_list (s : ByteArray) (b : UInt8) : (splitS s b).map (·.data.toList) = splitL b s.data.toList := by
  have h := cutD_split s b s.size (Nat.le_refl _)
  have hz : s.data.toList.take s.size = s.data.toList := List.take_of_length_le (Nat.le_refl _)
  rw [hz] at h
  rw [h, splitS, List.map_append, List.map_singleton, extract_list, hz]

/-- The number that the reference reads: its digits from the left. -/
def digs : Int → List UInt8 → Int
  | n, [] => n
  | n, c :: r => if c < 48 ∨ c > 57 then -1 else digs (10 * n + ((c.toNat : Int) - 48)) r
def readS (s : ByteArray) : Int := if s.size < 1 ∨ 6 < s.size ∨ (s.data[0]? = some 48 ∧ 1 < s.size) then -1 else digs 0 s.data.toList
end Go.Proofs.YtbhnaakknfienaaGreatDoor
namespace Go.Proofs.YtbhnaakknfienaaGreatDoor
open Go.RowKit
set_option linter.unusedVariables false

def isDig (c : UInt8) : Prop := 48 ≤ c.toNat ∧ c.toNat ≤ 57
theorem dig_iff (c : UInt8) : (c < 48 ∨ c > 57) ↔ ¬ isDig c := by
  unfold isDig
  simp only [UInt8.lt_iff_toNat_lt, gt_iff_lt, show (48 : UInt8).toNat = 48 from rfl, show (57 : UInt8).toNat = 57 from rfl]
  omega
theorem dig_of {k : Nat} (h : k < 10) : (UInt8.ofNat (48 + k)).toNat = 48 + k := UInt8.toNat_ofNat_of_lt' (show 48 + k < 256 by omega)
theorem dec_digs (n : Nat) : ∀ c ∈ Lib.decDigits n, isDig c := by
  induction n using Nat.strongRecOn with
  | ind n ih =>
    intro c hc
    by_cases h : n < 10
    · rw [Lib.decDigits_one h, List.mem_singleton] at hc
      subst hc
      rw [isDig, dig_of h]; omega
    · rw [Lib.decDigits, dif_neg h, List.mem_append, List.mem_singleton] at hc
      rcases hc with hc | rfl
      · exact ih (n / 10) (by omega) c hc
      · rw [isDig, dig_of (by omega)]; omega
theorem dec_ne (n : Nat) : Lib.decDigits n ≠ [] := by
  rw [Lib.decDigits]; split <;> simp
theorem dec_head (n : Nat) (h : 1 ≤ n) : (Lib.decDigits n).head? ≠ some 48 := by
  induction n using Nat.strongRecOn with
  | ind n ih =>
    by_cases h1 : n < 10
    · rw [Lib.decDigits_one h1]
      intro e
      have e1 := congrArg UInt8.toNat (Option.some.inj e)
      rw [dig_of h1, show (48 : UInt8).toNat = 48 from rfl] at e1
      omega
    · rw [Lib.decDigits, dif_neg h1, List.head?_append]
      have := ih (n / 10) (by omega) (by omega)
      cases hd : (Lib.decDigits (n / 10)) with
      | nil => exact absurd hd (dec_ne _)
      | cons a l => rw [hd] at this; simpa using this
theorem digs_neg : ∀ (l : List UInt8) (n : Int), (∃ c ∈ l, ¬ isDig c) → digs n l = -1
  | [], n, ⟨c, hc, _⟩ => by cases hc
  | d :: r, n, ⟨c, hc, hd⟩ => by
    rw [digs]
    split
    · rfl
    · rename_i h
      rw [dig_iff, Classical.not_not] at h
      rcases List.mem_cons.1 hc with rfl | hc
      · exact absurd h hd
      · exact digs_neg r _ ⟨c, hc, hd⟩
theorem digs_append : ∀ (l : List UInt8) (n : Int) (r : List UInt8), (∀ c ∈ l, isDig c) → digs n (l ++ r) = digs (digs n l) r
  | [], n, r, _ => rfl
  | d :: l, n, r, h => by
    have hd := h d (List.mem_cons_self ..)
    rw [List.cons_append, digs, digs, if_neg (by rw [dig_iff]; exact fun k => k hd), if_neg (by rw [dig_iff]; exact fun k => k hd)]
    exact digs_append l _ r (fun c hc => h c (List.mem_cons_of_mem _ hc))
theorem digs_one (n : Int) {c : UInt8} (h : isDig c) : digs n [c] = 10 * n + ((c.toNat : Int) - 48) := by
  rw [digs, if_neg (by rw [dig_iff]; exact fun k => k h)]; rfl
theorem digs_dec (n : Nat) : digs 0 (Lib.decDigits n) = n := by
  induction n using Nat.strongRecOn with
  | ind n ih =>
    by_cases h : n < 10
    · rw [Lib.decDigits_one h, digs_one _ (by rw [isDig, dig_of h]; omega), dig_of h]; omega
    · rw [Lib.decDigits, dif_neg h, digs_append _ _ _ (dec_digs _), ih (n / 10) (by omega), digs_one _ (by rw [isDig, dig_of (by omega)]; omega), dig_of (by omega)]
      omega
/-- Digits that spell a number, without a 0 ahead of others, are its numeral. -/
theorem dec_digs_inv : ∀ (k : Nat) (l : List UInt8), l.length = k → l ≠ [] → (∀ c ∈ l, isDig c) → (l.head? = some 48 → l.length = 1) → ∃ n : Nat, digs 0 l = n ∧ l = Lib.decDigits n
  | 0, l, hk, hne, _, _ => absurd (List.length_eq_zero_iff.1 hk) hne
  | k + 1, l, hk, hne, hd, hz => by
    obtain ⟨p, c, rfl⟩ : ∃ p c, l = p ++ [c] := ⟨l.dropLast, l.getLast hne, (List.dropLast_concat_getLast hne).symm⟩
    have hc := hd c (by simp)
    have hp : ∀ x ∈ p, isDig x := fun x hx => hd x (by simp [hx])
    have hlen : p.length = k := by simpa using hk
    have hct : UInt8.ofNat (48 + (c.toNat - 48)) = c := by
      rw [show 48 + (c.toNat - 48) = c.toNat by have := hc.1; omega]; simp
    rcases hp0 : p with _ | ⟨a, q⟩
    · refine ⟨c.toNat - 48, ?_, ?_⟩
      · rw [List.nil_append, digs_one _ hc]; have := hc.1; omega
      · rw [Lib.decDigits_one (by have := hc.2; omega), hct]; rfl
    · have hpne : p ≠ [] := by rw [hp0]; simp
      obtain ⟨n, e1, e2⟩ := dec_digs_inv k p hlen hpne hp (fun h0 => by
        have := hz (by rw [List.head?_append, h0]; rfl)
        rw [List.length_append, hp0] at this
        simp at this)
      have hn : 1 ≤ n := by
        rcases Nat.eq_zero_or_pos n with h0 | h0
        · exfalso
          rw [h0, Lib.decDigits_one (by omega)] at e2
          have := hz (by rw [e2]; rfl)
          rw [List.length_append, hp0] at this
          simp at this
        · exact h0
      rw [← hp0]
      refine ⟨10 * n + (c.toNat - 48), ?_, ?_⟩
      · rw [digs_append _ _ _ hp, e1, digs_one _ hc]; have := hc.1; omega
      · have h1 : (10 * n + (c.toNat - 48)) / 10 = n := by have := hc.2; omega
        have h2 : (10 * n + (c.toNat - 48)) % 10 = c.toNat - 48 := by have := hc.2; omega
        rw [Lib.decDigits, dif_neg (by omega), h1, h2, hct, ← e2]
theorem readS_txt (n : Nat) (h : n < 1000000) : readS (txt n) = n := by
  have hs : (txt n).size = Lib.nDigits n := by rw [← Lib.decDigits_length]; rfl
  have h6 : Lib.nDigits n ≤ 6 := by
    rcases Nat.lt_or_ge 6 (Lib.nDigits n) with h1 | h1
    · exfalso
      have aux : ∀ (k m : Nat), k + 1 ≤ Lib.nDigits m → 10 ^ k ≤ m ∨ k = 0 := by
        intro k
        induction k with
        | zero => intro m _; exact .inr rfl
        | succ k ih =>
          intro m hm
          left
          by_cases hm10 : m < 10
          · rw [Lib.nDigits_small hm10] at hm; omega
          · rw [Lib.nDigits_big hm10] at hm
            rcases ih (m / 10) (by omega) with h2 | h2
            · rw [Nat.pow_succ]; omega
            · subst h2; omega
      rcases aux 6 n h1 with h2 | h2 <;> omega
    · exact h1
  have h1 := Lib.nDigits_pos n
  have hd : (txt n).data.toList = Lib.decDigits n := rfl
  rw [readS, if_neg, hd, digs_dec]
  rw [hs]
  rintro (h2 | h2 | ⟨h2, h3⟩)
  · omega
  · omega
  · rw [← Array.getElem?_toList, hd, ← List.head?_eq_getElem?] at h2
    rcases Nat.eq_zero_or_pos n with h0 | h0
    · rw [h0, Lib.nDigits_small (by omega)] at h3; omega
    · exact dec_head n h0 h2
theorem readS_inv (s : ByteArray) (h : 0 ≤ readS s) : ∃ n : Nat, readS s = n ∧ s = txt n := by
  unfold readS at h ⊢
  split at h
  · omega
  · rename_i hc
    rw [if_neg hc]
    have hall : ∀ c ∈ s.data.toList, isDig c := by
      intro c hc2
      refine Classical.byContradiction fun hn => ?_
      rw [digs_neg _ _ ⟨c, hc2, hn⟩] at h
      omega
    have hne : s.data.toList ≠ [] := by
      intro e
      have : s.size = 0 := by rw [ByteArray.size, ← Array.length_toList, e]; rfl
      omega
    obtain ⟨n, e1, e2⟩ := dec_digs_inv _ s.data.toList rfl hne hall (fun h0 => by
      rw [List.head?_eq_getElem?, Array.getElem?_toList] at h0
      have : ¬ 1 < s.size := fun h1 => hc (.inr (.inr ⟨h0, h1⟩))
      have h2 : s.data.toList.length = s.size := rfl
      have h3 : s.data.toList.length ≠ 0 := fun e => hne (List.length_eq_zero_iff.1 e)
      omega)
    refine ⟨n, e1, ?_⟩
    apply ByteArray.ext
    apply Array.ext'
    rw [e2]; rfl

/-- What the program's readNumber hands back. -/
def rnV (s : ByteArray) : Int := match Lib.atoiAll s.data.toList with
  | .ok v => v
  | .range => Lib.atoiSat s.data.toList
  | _ => 0
def rnOk (s : ByteArray) : Bool := match Lib.atoiAll s.data.toList with
  | .ok v => decide (Lib.itoa v = s.data.toList)
  | _ => false
theorem rn_ok {s : ByteArray} (h : rnOk s = true) : s.data.toList = Lib.itoa (rnV s) := by
  unfold rnOk at h
  unfold rnV
  split at h <;> rename_i e
  · rw [e]; exact (of_decide_eq_true h).symm
  · cases h
theorem rn_txt_of {s : ByteArray} {n : Nat} (h : rnOk s = true) (hv : rnV s = n) : s = txt n := by
  apply ByteArray.ext
  apply Array.ext'
  rw [rn_ok h, hv, Lib.itoa_nonneg]; rfl
theorem parse_append : ∀ (l : List UInt8) (a u : Nat) (r : List UInt8), Lib.parseUint10 a l = .ok u → Lib.parseUint10 a (l ++ r) = Lib.parseUint10 u r
  | [], a, u, r, h => by simp only [Lib.parseUint10] at h; injection h with h; subst h; rfl
  | c :: l, a, u, r, h => by
    rw [List.cons_append]
    simp only [Lib.parseUint10] at h ⊢
    split at h
    · rename_i h1
      rw [if_pos h1]
      split at h
      · cases h
      · rename_i h2
        rw [if_neg h2]
        split at h
        · cases h
        · rename_i h3
          rw [if_neg h3]
          exact parse_append l _ u r h
    · cases h
theorem parse_one (a : Nat) {c : UInt8} (h : isDig c) (ha : a * 10 + (c.toNat - 48) < 18446744073709551616) : Lib.parseUint10 a [c] = .ok (a * 10 + (c.toNat - 48)) := by
  have := h.2
  simp only [Lib.parseUint10]
  rw [if_pos (show 48 ≤ c.toNat ∧ c.toNat ≤ 57 from h), if_neg (by omega), if_neg (by omega)]
theorem parse_dec (n : Nat) (h : n < 18446744073709551616) : Lib.parseUint10 0 (Lib.decDigits n) = .ok n := by
  induction n using Nat.strongRecOn with
  | ind n ih =>
    by_cases h1 : n < 10
    · rw [Lib.decDigits_one h1, parse_one 0 (by rw [isDig, dig_of h1]; omega) (by rw [dig_of h1]; omega), dig_of h1]
      congr 1; omega
    · rw [Lib.decDigits, dif_neg h1, parse_append _ _ _ _ (ih (n / 10) (by omega) (by omega)), parse_one _ (by rw [isDig, dig_of (by omega)]; omega) (by rw [dig_of (by omega)]; omega), dig_of (by omega)]
      congr 1; omega
theorem atoi_dec (n : Nat) (h : n < 9223372036854775808) : Lib.atoiAll (Lib.decDigits n) = .ok (n : Int) := by
  rcases hd : Lib.decDigits n with _ | ⟨c, r⟩
  · exact absurd hd (dec_ne n)
  · have hc := dec_digs n c (by rw [hd]; exact List.mem_cons_self ..)
    have h1 := hc.1
    unfold Lib.atoiAll
    dsimp only
    rw [if_neg (show ¬ (c.toNat = 43 ∨ c.toNat = 45) by omega), ← hd, Lib.parseMag, if_neg (dec_ne n), parse_dec n (by omega)]
    dsimp only
    rw [if_neg (by omega), if_neg (by omega), if_neg (by omega)]
theorem rnV_txt (n : Nat) (h : n < 9223372036854775808) : rnV (txt n) = n := by
  rw [rnV, show (txt n).data.toList = Lib.decDigits n from rfl, atoi_dec n h]
theorem rnOk_txt (n : Nat) (h : n < 9223372036854775808) : rnOk (txt n) = true := by
  rw [rnOk, show (txt n).data.toList = Lib.decDigits n from rfl, atoi_dec n h]
  simp [Lib.itoa_nonneg]
end Go.Proofs.YtbhnaakknfienaaGreatDoor
namespace Go.Proofs.YtbhnaakknfienaaGreatDoor
open Go.RowKit
set_option linter.unusedVariables false

theorem drop_at {s : ByteArray} {k : Nat} (h : k < s.size) : s.data.toList.drop k = s[k] :: s.data.toList.drop (k + 1) := List.drop_eq_getElem_cons (by simpa using h)
theorem readS_no {s : ByteArray} (h : s.size < 1 ∨ 6 < s.size ∨ (s.data[0]? = some 48 ∧ 1 < s.size)) : readS s = -1 := by rw [readS, if_pos h]
theorem readS_yes {s : ByteArray} (h : ¬ (s.size < 1 ∨ 6 < s.size ∨ (s.data[0]? = some 48 ∧ 1 < s.size))) : readS s = digs 0 s.data.toList := by rw [readS, if_neg h]
theorem ret_i64 {a b : Int} (h : a = b) : Ending.returned (.int .i64 a) = .returned (.int .i64 b) := by rw [h]
theorem digs_stop {s : ByteArray} {k n : Nat} (h : k < s.size) (hd : ¬ isDig s[k]) (h2 : digs n (s.data.toList.drop k) = digs 0 s.data.toList) : digs 0 s.data.toList = -1 := by
  rw [← h2, drop_at h, digs, if_pos ((dig_iff _).2 hd)]
theorem digs_go {s : ByteArray} {k n : Nat} (h : k < s.size) (hd : isDig s[k]) (h2 : digs n (s.data.toList.drop k) = digs 0 s.data.toList) : digs ((10 * n + (s[k].toNat - 48) : Nat) : Int) (s.data.toList.drop (k + 1)) = digs 0 s.data.toList := by
  rw [← h2, drop_at h, digs, if_neg (by rw [dig_iff]; exact fun k => k hd)]
  congr 1
  have := hd.1
  omega

set_option maxHeartbeats 2000000 in
theorem read_any (s : ByteArray) (w : World) (hs : s.size ≤ maxLen) :
    Calls Tryz.prog 69 #[.string s] w fun e w' => e = .returned (.int .i64 (readS s)) ∧ Below w.heap.size w w' := by
  unfold maxLen at hs
  by_cases h1 : 1 ≤ s.size ∧ s.size ≤ 6
  · have hin : inB (s.size : Int) 1 6 = true := by rw [inB_iff]; omega
    have hs1 : s.size ≤ 6 := h1.2
    have hs0 : 0 < s.size := h1.1
    by_cases h2 : s[0] = 48 ∧ 1 < s.size
    · have HN := hide (readS_no (s := s) (.inr (.inr ⟨by rw [← h2.1]; exact Array.getElem?_eq_getElem hs0, h2.2⟩)))
      have e0 : (s[0].toNat : Int) = 48 := by rw [h2.1]; rfl
      have e1 : ((1 : Int) < (s.size : Int)) = True := by simp; omega
      go_enter Tryz.func69, Tryz.ntmps69
      go_wp2_with (go_at_call 59; ((with_reducible refine (l1In_any _ _ _ _).mono ?_); rintro e w' ⟨rfl, rfl⟩))
      go_ret
      exact ⟨ret_i64 HN.out.symm, (by repeat (first | exact Below.refl _ _ | refine below_step ?_ (by assumption) | refine below_step ?_ (Later.below _) | refine below_alloc ?_ _ | refine Below.drew ?_ | refine Below.setCell ?_ (by first | (simp; done) | (simp; omega)) _))⟩
    · have HY := hide (readS_yes (s := s) (by
        rintro (h | h | ⟨h, h'⟩)
        · omega
        · omega
        · exact h2 ⟨by
            have := Array.getElem?_eq_getElem (xs := s.data) hs0
            rw [this] at h
            exact Option.some.inj h, h'⟩))
      have HQ : Hid (∀ Q : Prop, (s[0] ≠ 48 → Q) → (s.size = 1 → Q) → Q) := hide (fun Q ha hb => by
        by_cases h0 : s[0] = 48
        · exact hb (by have hn : ¬ 1 < s.size := fun h => h2 ⟨h0, h⟩; omega)
        · exact ha h0)
      clear h2
      by_cases hz : (s[0].toNat : Int) = 48
      · have e1 : ((1 : Int) < (s.size : Int)) = False := by
          simp only [eq_iff_iff, iff_false]
          refine HQ.out (¬ (1 : Int) < (s.size : Int)) (fun h => absurd ?_ h) (fun (h : s.size = 1) => ?_)
          · apply UInt8.toNat_inj.1
            rw [show (48 : UInt8).toNat = 48 from rfl]; omega
          · clear HQ; omega
        clear HQ
        go_enter Tryz.func69, Tryz.ntmps69
        go_wp2_with (go_at_call 59; ((with_reducible refine (l1In_any _ _ _ _).mono ?_); rintro e w' ⟨rfl, rfl⟩))
        go_loop [4, 3] (fun i v => ∃ k n : Nat, k ≤ s.size ∧ i = .int .i64 k ∧ v = .int .i64 n ∧ n < 1000000 ∧ Hid (n < 10 ^ k) ∧ Hid (digs n (s.data.toList.drop k) = digs 0 s.data.toList)) (fun i _ => s.size - (intOf i).toNat)
        case atStart => exact ⟨0, 0, Nat.zero_le _, rfl, rfl, by omega, hide (by simp), hide rfl⟩
        case round =>
          obtain ⟨k, n, hk, rfl, rfl, hn6, HP, HD⟩ := hrel
          by_cases hlt : k < s.size
          · by_cases h1 : (s[k].toNat : Int) < 48
            · have HE := hide (digs_stop hlt (by unfold isDig; omega) HD.out)
              go_wp2
              go_ret
              exact ⟨ret_i64 (by rw [HY.out, HE.out]), (by repeat (first | exact Below.refl _ _ | refine below_step ?_ (by assumption) | refine below_step ?_ (Later.below _) | refine below_alloc ?_ _ | refine Below.drew ?_ | refine Below.setCell ?_ (by first | (simp; done) | (simp; omega)) _))⟩
            · by_cases h2 : (57 : Int) < (s[k].toNat : Int)
              · have HE := hide (digs_stop hlt (by unfold isDig; omega) HD.out)
                go_wp2
                go_ret
                exact ⟨ret_i64 (by rw [HY.out, HE.out]), (by repeat (first | exact Below.refl _ _ | refine below_step ?_ (by assumption) | refine below_step ?_ (Later.below _) | refine below_alloc ?_ _ | refine Below.drew ?_ | refine Below.setCell ?_ (by first | (simp; done) | (simp; omega)) _))⟩
              · have hd : isDig s[k] := by unfold isDig; omega
                have HE := hide (digs_go hlt hd HD.out)
                have hp5 : n < 100000 := Nat.lt_of_lt_of_le HP.out (Nat.pow_le_pow_right (n := 10) (by omega) (show k ≤ 5 by omega))
                have HP2 : Hid (10 * n + (s[k].toNat - 48) < 10 ^ (k + 1)) := hide (by have := HP.out; have := hd.2; rw [Nat.pow_succ]; omega)
                have eu : IntKind.u8.wrap ((s[k].toNat : Int) - 48) = (s[k].toNat : Int) - 48 := by rw [IntKind.wrap_u8]; omega
                clear hd
                go_wp2
                go_round
                case rel => exact ⟨k + 1, 10 * n + (s[k].toNat - 48), by omega, by go_num, by go_num, by omega, HP2, HE⟩
                case measure => simp [intOf]; omega
          · have HZ : Hid ((n : Int) = digs 0 s.data.toList) := hide (by
              have := HD.out
              rw [List.drop_eq_nil_of_le (by rw [Array.length_toList]; show s.size ≤ k; omega)] at this
              exact this)
            go_wp2
            go_ret
            exact ⟨ret_i64 (by rw [HY.out, HZ.out]), (by repeat (first | exact Below.refl _ _ | refine below_step ?_ (by assumption) | refine below_step ?_ (Later.below _) | refine below_alloc ?_ _ | refine Below.drew ?_ | refine Below.setCell ?_ (by first | (simp; done) | (simp; omega)) _))⟩
      · clear HQ
        go_enter Tryz.func69, Tryz.ntmps69
        go_wp2_with (go_at_call 59; ((with_reducible refine (l1In_any _ _ _ _).mono ?_); rintro e w' ⟨rfl, rfl⟩))
        go_loop [4, 3] (fun i v => ∃ k n : Nat, k ≤ s.size ∧ i = .int .i64 k ∧ v = .int .i64 n ∧ n < 1000000 ∧ Hid (n < 10 ^ k) ∧ Hid (digs n (s.data.toList.drop k) = digs 0 s.data.toList)) (fun i _ => s.size - (intOf i).toNat)
        case atStart => exact ⟨0, 0, Nat.zero_le _, rfl, rfl, by omega, hide (by simp), hide rfl⟩
        case round =>
          obtain ⟨k, n, hk, rfl, rfl, hn6, HP, HD⟩ := hrel
          by_cases hlt : k < s.size
          · by_cases h1 : (s[k].toNat : Int) < 48
            · have HE := hide (digs_stop hlt (by unfold isDig; omega) HD.out)
              go_wp2
              go_ret
              exact ⟨ret_i64 (by rw [HY.out, HE.out]), (by repeat (first | exact Below.refl _ _ | refine below_step ?_ (by assumption) | refine below_step ?_ (Later.below _) | refine below_alloc ?_ _ | refine Below.drew ?_ | refine Below.setCell ?_ (by first | (simp; done) | (simp; omega)) _))⟩
            · by_cases h2 : (57 : Int) < (s[k].toNat : Int)
              · have HE := hide (digs_stop hlt (by unfold isDig; omega) HD.out)
                go_wp2
                go_ret
                exact ⟨ret_i64 (by rw [HY.out, HE.out]), (by repeat (first | exact Below.refl _ _ | refine below_step ?_ (by assumption) | refine below_step ?_ (Later.below _) | refine below_alloc ?_ _ | refine Below.drew ?_ | refine Below.setCell ?_ (by first | (simp; done) | (simp; omega)) _))⟩
              · have hd : isDig s[k] := by unfold isDig; omega
                have HE := hide (digs_go hlt hd HD.out)
                have hp5 : n < 100000 := Nat.lt_of_lt_of_le HP.out (Nat.pow_le_pow_right (n := 10) (by omega) (show k ≤ 5 by omega))
                have HP2 : Hid (10 * n + (s[k].toNat - 48) < 10 ^ (k + 1)) := hide (by have := HP.out; have := hd.2; rw [Nat.pow_succ]; omega)
                have eu : IntKind.u8.wrap ((s[k].toNat : Int) - 48) = (s[k].toNat : Int) - 48 := by rw [IntKind.wrap_u8]; omega
                clear hd
                go_wp2
                go_round
                case rel => exact ⟨k + 1, 10 * n + (s[k].toNat - 48), by omega, by go_num, by go_num, by omega, HP2, HE⟩
                case measure => simp [intOf]; omega
          · have HZ : Hid ((n : Int) = digs 0 s.data.toList) := hide (by
              have := HD.out
              rw [List.drop_eq_nil_of_le (by rw [Array.length_toList]; show s.size ≤ k; omega)] at this
              exact this)
            go_wp2
            go_ret
            exact ⟨ret_i64 (by rw [HY.out, HZ.out]), (by repeat (first | exact Below.refl _ _ | refine below_step ?_ (by assumption) | refine below_step ?_ (Later.below _) | refine below_alloc ?_ _ | refine Below.drew ?_ | refine Below.setCell ?_ (by first | (simp; done) | (simp; omega)) _))⟩
  · have HN := hide (readS_no (s := s) (by omega))
    have hin : inB (s.size : Int) 1 6 = false := by rw [Bool.eq_false_iff, ne_eq, inB_iff]; omega
    go_enter Tryz.func69, Tryz.ntmps69
    go_wp2_with (go_at_call 59; ((with_reducible refine (l1In_any _ _ _ _).mono ?_); rintro e w' ⟨rfl, rfl⟩))
    go_ret
    exact ⟨ret_i64 HN.out.symm, (by repeat (first | exact Below.refl _ _ | refine below_step ?_ (by assumption) | refine below_step ?_ (Later.below _) | refine below_alloc ?_ _ | refine Below.drew ?_ | refine Below.setCell ?_ (by first | (simp; done) | (simp; omega)) _))⟩
end Go.Proofs.YtbhnaakknfienaaGreatDoor
namespace Go.Proofs.YtbhnaakknfienaaGreatDoor
open Go.RowKit
set_option linter.unusedVariables false

theorem infoStrV : (Tryz.prog.info? 9).map (fun i => (i.zero, i.size, i.bytes)) = some (some (.string ByteArray.empty), 1, 16) := by kernel_rfl
def strV (L : List ByteArray) : List Value := L.map Value.string
theorem strV_append (L M : List ByteArray) : strV (L ++ M) = strV L ++ strV M := by simp [strV]
theorem strV_at {L : List ByteArray} {j : Nat} {x : ByteArray} (h : L[j]? = some x) : (strV L)[j]? = some (.string x) := by simp [strV, h]
/-- A list of texts in a row of the call's own. -/
def OwnV (w : World) (B : Nat) (L : List ByteArray) (v : Value) : Prop := w.ownsRow B 9 1 v L.length (strV L)
def TextsPost (L : List ByteArray) (w : World) (e : Ending) (w' : World) : Prop := (∃ v, e = .returned v ∧ OwnV w' w.heap.size L v) ∧ Below w.heap.size w w'
theorem splitS_eq (s : ByteArray) (b : UInt8) : splitS s b = (cutD s b s.size).1 ++ [s.extract (cutD s b s.size).2 s.size] := rfl
theorem cutD_yes {s : ByteArray} {b : UInt8} {i : Nat} (h : i < s.size) (hb : s[i] = b) : cutD s b (i + 1) = ((cutD s b i).1 ++ [s.extract (cutD s b i).2 i], i + 1) := by
  rw [cutD, if_pos]
  rw [← hb]; exact Array.getElem?_eq_getElem h
theorem cutD_no {s : ByteArray} {b : UInt8} {i : Nat} (h : i < s.size) (hb : s[i] ≠ b) : cutD s b (i + 1) = cutD s b i := by
  rw [cutD, if_neg]
  intro e
  have h2 : s.data[i]? = some s[i] := Array.getElem?_eq_getElem h
  rw [h2] at e
  exact hb (Option.some.inj e)

set_option maxRecDepth 100000 in
set_option maxHeartbeats 4000000 in
theorem split_any (s : ByteArray) (b : UInt8) (w : World) (hs : s.size ≤ 2000000) :
    Calls Tryz.prog 68 #[.string s, .int .u8 (b.toNat : Int)] w (TextsPost (splitS s b) w) := by
  obtain ⟨i0, hi0, hz0, hz1, hz2⟩ := info_parts infoStrV
  have Hi := hide hi0
  have Hz := hide (And.intro hz0 (And.intro hz1 hz2))
  clear hi0 hz0 hz1 hz2
  go_enter Tryz.func68, Tryz.ntmps68
  go_wp2_with fail
  go_loopw [7, 6, 5] (fun t f v wr => ∃ k m : Nat, k ≤ s.size ∧ m ≤ k ∧ t = .int .i64 k ∧ f = .int .i64 m ∧ Hid (m = (cutD s b k).2) ∧ Hid (OwnV wr w.heap.size (cutD s b k).1 v) ∧ Hid (Below w.heap.size w wr)) (fun t _ _ _ => s.size - (intOf t).toNat)
  case atStart => exact ⟨0, 0, by omega, by omega, rfl, rfl, hide rfl, hide (World.ownsRow_nil _ _ _ _), hide (Below.refl _ _)⟩
  case round =>
    obtain ⟨k, m, hk, hm, rfl, rfl, HM, HO, HB⟩ := hrel
    have hcl := (cutD_le s b k).2
    by_cases hlt : k < s.size
    · by_cases hbb : s[k] = b
      · have e0 : (s[k].toNat : Int) = (b.toNat : Int) := by rw [hbb]
        have HD := hide (cutD_yes hlt hbb)
        have HOA := hide (World.ownsRow.alloc HO.out (.cells #[.string (s.extract m k)] 9))
        have HNC := hide (show ∀ (j : Nat) (u : Value), [Value.string (s.extract m k)][j]? = some u → (wr.alloc (.cells #[.string (s.extract m k)] 9)).cell? ((⟨wr.heap.size, 0, none⟩ : Addr).add j) = some u from fun j u hu => by rw [Addr.add_lit, Nat.zero_add]; exact (Row.new _ _ _).2.1 j u hu)
        have HWZ : Hid (w.heap.size ≤ (wr.alloc (.cells #[.string (s.extract m k)] 9)).heap.size) := hide (by have := HB.out.size; simp; omega)
        have HBL := hide (fun q hq => (HO.out.lt q hq).1)
        go_wp2_with (at_builtin; refine wpList_append_own _ rfl (.tmp 19) (.tmp 24) 87 rfl w.heap.size 9 i0 (.string ByteArray.empty) 1 16 Tryz.underlying87 Hi.out Hz.out.1 Hz.out.2.1 Hz.out.2.2 rfl (by decide) _ _ _ rfl HOA.out ⟨wr.heap.size, 0, none⟩ 1 1 [.string (s.extract m k)] rfl rfl HNC.out ?c1 ?c2 ?c3 HWZ.out ?_)
        case c1 => simp [Value.oneCell']
        case c2 => unfold maxLen; omega
        case c3 => omega
        intro v' w5 hown hgrow _
        have HB5 := hide ((below_alloc HB.out _).grown hgrow (by have := HB.out.size; simp; omega) HBL.out)
        have HO5 := hide hown
        clear hown hgrow HOA HNC HWZ HBL
        go_wp2
        go_roundw
        case rel => exact ⟨k + 1, k + 1, by omega, by omega, by go_num, by go_num, hide (by rw [HD.out]), hide (by rw [HD.out]; unfold OwnV; dsimp only; rw [List.length_append, strV_append, ← HM.out]; exact HO5.out), HB5⟩
        case measure => simp [intOf]; omega
      · have e0 : ¬ (s[k].toNat : Int) = (b.toNat : Int) := fun e => hbb (UInt8.toNat_inj.1 (by omega))
        have HD := hide (cutD_no hlt hbb)
        clear hbb
        go_wp2
        go_roundw
        case rel => exact ⟨k + 1, m, by omega, by omega, by go_num, rfl, hide (by rw [HD.out]; exact HM.out), hide (by rw [HD.out]; exact HO.out), HB⟩
        case measure => simp [intOf]; omega
    · obtain rfl : k = s.size := by omega
      have HOA := hide (World.ownsRow.alloc HO.out (.cells #[.string (s.extract m s.size)] 9))
      have HNC := hide (show ∀ (j : Nat) (u : Value), [Value.string (s.extract m s.size)][j]? = some u → (wr.alloc (.cells #[.string (s.extract m s.size)] 9)).cell? ((⟨wr.heap.size, 0, none⟩ : Addr).add j) = some u from fun j u hu => by rw [Addr.add_lit, Nat.zero_add]; exact (Row.new _ _ _).2.1 j u hu)
      have HWZ : Hid (w.heap.size ≤ (wr.alloc (.cells #[.string (s.extract m s.size)] 9)).heap.size) := hide (by have := HB.out.size; simp; omega)
      have HBL := hide (fun q hq => (HO.out.lt q hq).1)
      go_wp2_with (at_builtin; refine wpList_append_own _ rfl (.tmp 28) (.tmp 32) 87 rfl w.heap.size 9 i0 (.string ByteArray.empty) 1 16 Tryz.underlying87 Hi.out Hz.out.1 Hz.out.2.1 Hz.out.2.2 rfl (by decide) _ _ _ rfl HOA.out ⟨wr.heap.size, 0, none⟩ 1 1 [.string (s.extract m s.size)] rfl rfl HNC.out ?c1 ?c2 ?c3 HWZ.out ?_)
      case c1 => simp [Value.oneCell']
      case c2 => unfold maxLen; omega
      case c3 => omega
      intro v' w5 hown hgrow _
      have HB5 := hide ((below_alloc HB.out _).grown hgrow (by have := HB.out.size; simp; omega) HBL.out)
      have HO5 := hide hown
      clear hown hgrow HOA HNC HWZ HBL
      go_wp2
      go_ret
      exact ⟨⟨_, rfl, by rw [splitS_eq, ← HM.out]; unfold OwnV; rw [List.length_append, strV_append]; exact HO5.out⟩, HB5.out⟩
end Go.Proofs.YtbhnaakknfienaaGreatDoor
namespace Go.Proofs.YtbhnaakknfienaaGreatDoor
open Go.RowKit
set_option linter.unusedVariables false

theorem atoi_bounds {l : List UInt8} {v : Int} (h : Lib.atoiAll l = .ok v) : -9223372036854775808 ≤ v ∧ v ≤ 9223372036854775807 := by
  unfold Lib.atoiAll at h
  cases l with
  | nil => cases h
  | cons c r =>
    dsimp only at h
    split at h
    · cases h
    · cases h
    · rename_i u hu
      split at h
      · cases h
      · rename_i h1
        split at h
        · cases h
        · rename_i h2
          injection h with h
          by_cases hn : c.toNat = 45
          · rw [if_pos hn] at h
            have : ¬ 9223372036854775808 < u := fun hh => h2 ⟨hn, hh⟩
            omega
          · rw [if_neg hn] at h
            have : ¬ 9223372036854775808 ≤ u := fun hh => h1 ⟨hn, hh⟩
            omega
theorem sat_bounds (l : List UInt8) : -9223372036854775808 ≤ Lib.atoiSat l ∧ Lib.atoiSat l ≤ 9223372036854775807 := by
  unfold Lib.atoiSat; split <;> omega
theorem text_eq_iff (l : List UInt8) (s : ByteArray) : ((⟨l.toArray⟩ : ByteArray) = s) ↔ l = s.data.toList := by
  constructor
  · rintro rfl; rfl
  · intro h; apply ByteArray.ext; apply Array.ext'; exact h
theorem texts_eq (a b : ByteArray) : (a.toList == b.toList) = decide (a = b) := by
  rw [ByteArray.toList_eq, ByteArray.toList_eq]
  by_cases h : a = b
  · subst h; simp
  · rw [decide_eq_false h, beq_eq_false_iff_ne]
    exact fun e => h (by apply ByteArray.ext; apply Array.ext'; exact e)
/-- A variable's reading stays. -/
theorem var_below {w w' : World} {nm : String} {x : Array Value} (hg : (Tryz.prog.globalNamed nm).isSome = true) (h : w.var? Tryz.prog nm = some x) (hb : Below w.heap.size w w') : w'.var? Tryz.prog nm = some x := by
  obtain ⟨g, hg⟩ := Option.isSome_iff_exists.1 hg
  unfold World.var? at h ⊢
  rw [hg] at h ⊢
  simp only [Option.bind_some] at h ⊢
  have hlt : g < w.heap.size := by
    rcases Nat.lt_or_ge g w.heap.size with h' | h'
    · exact h'
    · rw [Array.getElem?_eq_none h'] at h; cases h
  rw [hb.block g hlt]
  exact h
/-- What the program's reading of numbers leans on: the table, both errors. -/
structure NumEnv (w : World) : Prop where
  tab : Tab w
  syn : ∃ t p, w.var? Tryz.prog "strconv.ErrSyntax" = some #[.iface t p]
  rng : ∃ t p, w.var? Tryz.prog "strconv.ErrRange" = some #[.iface t p]
theorem NumEnv.below {w w' : World} (h : NumEnv w) (hb : Below w.heap.size w w') : NumEnv w' :=
  ⟨tab_below h.tab hb, let ⟨t, p, e⟩ := h.syn; ⟨t, p, var_below (by kernel_rfl) e hb⟩, let ⟨t, p, e⟩ := h.rng; ⟨t, p, var_below (by kernel_rfl) e hb⟩⟩
theorem rn_none {s : ByteArray} (h : (∀ v, Lib.atoiAll s.data.toList ≠ .ok v) ∧ Lib.atoiAll s.data.toList ≠ .range) : rnV s = 0 ∧ rnOk s = false := by
  unfold rnV rnOk
  cases e : Lib.atoiAll s.data.toList with
  | ok v => exact absurd e (h.1 v)
  | range => exact absurd e h.2
  | _ => exact ⟨rfl, rfl⟩
theorem rn_range {s : ByteArray} (h : Lib.atoiAll s.data.toList = .range) : rnV s = Lib.atoiSat s.data.toList ∧ rnOk s = false := by
  unfold rnV rnOk; rw [h]; exact ⟨rfl, rfl⟩
theorem rn_good {s : ByteArray} {v : Int} (h : Lib.atoiAll s.data.toList = .ok v) : rnV s = v ∧ rnOk s = decide ((⟨(Lib.itoa v).toArray⟩ : ByteArray) = s) := by
  unfold rnV rnOk; rw [h]
  exact ⟨rfl, decide_eq_decide.2 (text_eq_iff _ _).symm⟩
theorem ret_num {a b : Int} {c d : Bool} (h : b = a) (h2 : d = c) : Ending.returned (.tuple #[.int .i64 a, .bool c]) = .returned (.tuple #[.int .i64 b, .bool d]) := by rw [h, h2]

set_option maxHeartbeats 2000000 in
theorem readNumber_any (s : ByteArray) (w : World) (hs : s.size ≤ 2000000) (he : NumEnv w) :
    Calls Tryz.prog 87 #[.string s] w fun e w' => e = .returned (.tuple #[.int .i64 (rnV s), .bool (rnOk s)]) ∧ Below w.heap.size w w' := by
  have HE := hide he
  clear he
  by_cases hok : ∃ v, Lib.atoiAll s.data.toList = .ok v
  · obtain ⟨v, h⟩ := hok
    have Q := hide (Tryz.strconv_Atoi_ok s (by omega) v h w)
    have HR := hide (rn_good h)
    have hv := atoi_bounds h
    clear h
    go_enter Tryz.func87, Tryz.ntmps87
    go_wp2_with fail
    refine Q.out.mono ?_
    rintro e w1 ⟨rfl, hq⟩
    have HB : Hid (Below w.heap.size w w1) := hide (by
      rcases hq with rfl | ⟨t, rfl⟩
      · exact Below.refl _ _
      · exact Lib.bytesWorld_below _ _ _)
    have QI := hide (Tryz.strconv_Itoa v (by omega) (by omega) w1 (HE.out.below HB.out).tab)
    clear hq Q hv
    go_wp2_with fail
    refine QI.out.mono ?_
    rintro e w2 ⟨rfl, hk⟩
    have HB2 : Hid (Below w.heap.size w w2) := hide (by
      obtain ⟨k, os, rfl⟩ := hk
      exact below_step HB.out (below_grow _ _ _))
    clear hk QI
    generalize (⟨(Lib.itoa v).toArray⟩ : ByteArray) = x at *
    by_cases hx : x = s
    · subst hx
      go_wp2_with fail
      go_ret2
      exact ⟨ret_num HR.out.1 (by rw [HR.out.2]; simp), HB2.out⟩
    · go_wp2_with fail
      go_ret2
      exact ⟨ret_num HR.out.1 (by rw [HR.out.2]; exact (texts_eq _ _).symm), HB2.out⟩
  · by_cases h : Lib.atoiAll s.data.toList = .range
    · obtain ⟨t, p, hv⟩ := HE.out.rng
      have Q := hide (Tryz.strconv_Atoi_range_var s (by omega) h t p w hv)
      have HR := hide (rn_range h)
      generalize Lib.atoiSat s.data.toList = v at *
      clear h hok hv
      go_enter Tryz.func87, Tryz.ntmps87
      go_wp2_with fail
      refine Q.out.mono ?_
      rintro e w1 ⟨N, rfl, -, -, hq⟩
      have HB := hide hq
      clear hq Q
      go_wp2_with fail
      go_ret2
      exact ⟨ret_num HR.out.1 HR.out.2, HB.out⟩
    · have h3 : (∀ v, Lib.atoiAll s.data.toList ≠ .ok v) ∧ Lib.atoiAll s.data.toList ≠ .range := ⟨fun v e => hok ⟨v, e⟩, h⟩
      obtain ⟨t, p, hv⟩ := HE.out.syn
      have Q := hide (Tryz.strconv_Atoi_none_var s (by omega) h3 t p w hv)
      have HR := hide (rn_none h3)
      clear h h3 hok hv
      go_enter Tryz.func87, Tryz.ntmps87
      go_wp2_with fail
      refine Q.out.mono ?_
      rintro e w1 ⟨N, rfl, -, -, hq⟩
      have HB := hide hq
      clear hq Q
      go_wp2_with fail
      go_ret2
      exact ⟨ret_num HR.out.1 HR.out.2, HB.out⟩
end Go.Proofs.YtbhnaakknfienaaGreatDoor
namespace Go.Proofs.YtbhnaakknfienaaGreatDoor
open Go.RowKit
set_option linter.unusedVariables false

theorem index_byte {b : UInt8} (r : List UInt8) : ∀ {p : List UInt8}, (∀ x ∈ p, x ≠ b) → Lib.index (p ++ b :: r) [b] = (p.length : Int)
  | [], _ => by rw [List.nil_append, Lib.index]; simp [List.isPrefixOf]
  | c :: p, h => by
    have hc : c ≠ b := h c (List.mem_cons_self ..)
    have ih := index_byte r (p := p) (fun x hx => h x (List.mem_cons_of_mem _ hx))
    have hp : ([b] : List UInt8).isPrefixOf (c :: (p ++ b :: r)) = false := by simp [List.isPrefixOf, Ne.symm hc]
    have hx : Lib.index (c :: (p ++ b :: r)) [b] = if Lib.index (p ++ b :: r) [b] == -1 then -1 else Lib.index (p ++ b :: r) [b] + 1 := by rw [Lib.index, hp]; simp
    rw [List.cons_append, hx, ih, if_neg (fun e => by have := beq_iff_eq.1 e; omega), List.length_cons]
    omega
theorem cut_byte {b : UInt8} {p r : List UInt8} (h : ∀ x ∈ p, x ≠ b) : Lib.cut (p ++ b :: r) [b] = (p, r, true) := by
  unfold Lib.cut
  rw [index_byte r h, if_pos (by omega)]
  simp
theorem go_word : ∀ (v cur r : List UInt8), (∀ c ∈ v, Lib.isSp c = false) → Lib.fieldsGo cur (v ++ r) = Lib.fieldsGo (cur ++ v) r
  | [], cur, r, _ => by simp
  | c :: v, cur, r, h => by
    rw [List.cons_append, Lib.fieldsGo_more _ _ _ (h c (List.mem_cons_self ..)), go_word v _ r (fun x hx => h x (List.mem_cons_of_mem _ hx))]
    simp
theorem sp32 : Lib.isSp 32 = true := by decide
/-- Words with a space behind each. -/
theorem fields_ends : ∀ {ws : List (List UInt8)}, (∀ v ∈ ws, v ≠ [] ∧ ∀ c ∈ v, Lib.isSp c = false) → Lib.fields (ws.flatMap (· ++ [32])) = ws
  | [], _ => rfl
  | v :: ws, h => by
    obtain ⟨h1, h2⟩ := h v (List.mem_cons_self ..)
    have ih := fields_ends (ws := ws) (fun x hx => h x (List.mem_cons_of_mem _ hx))
    unfold Lib.fields at ih ⊢
    rw [List.flatMap_cons, List.append_assoc, List.singleton_append, go_word v [] _ h2, List.nil_append, Lib.fieldsGo_end v 32 _ sp32 h1, ih]
theorem go_begins : ∀ {ws : List (List UInt8)} {v : List UInt8}, v ≠ [] → (∀ v ∈ ws, v ≠ [] ∧ ∀ c ∈ v, Lib.isSp c = false) → Lib.fieldsGo v (ws.flatMap (32 :: ·)) = v :: ws
  | [], v, h1, _ => by cases v with
    | nil => exact absurd rfl h1
    | cons a v => rfl
  | x :: ws, v, h1, h => by
    obtain ⟨h2, h3⟩ := h x (List.mem_cons_self ..)
    rw [List.flatMap_cons, List.cons_append, Lib.fieldsGo_end v 32 _ sp32 h1, go_word x [] _ h3, List.nil_append, go_begins (ws := ws) h2 (fun y hy => h y (List.mem_cons_of_mem _ hy))]
/-- Words with a space ahead of each. -/
theorem fields_begins {ws : List (List UInt8)} (h : ∀ v ∈ ws, v ≠ [] ∧ ∀ c ∈ v, Lib.isSp c = false) : Lib.fields (ws.flatMap (32 :: ·)) = ws := by
  cases ws with
  | nil => rfl
  | cons v ws =>
    obtain ⟨h1, h2⟩ := h v (List.mem_cons_self ..)
    unfold Lib.fields
    rw [List.flatMap_cons, List.cons_append, Lib.fieldsGo_sp 32 _ sp32, go_word v [] _ h2, List.nil_append, go_begins h1 (fun y hy => h y (List.mem_cons_of_mem _ hy))]
theorem dig_facts {c : UInt8} (h : isDig c) : c ≠ 32 ∧ c ≠ 45 ∧ c ≠ 47 ∧ c ≠ 58 ∧ c ≠ 59 ∧ c ≠ 61 ∧ c ≠ 124 ∧ Lib.isSp c = false ∧ c.toNat < 128 := by
  have h1 := h.1
  have h2 := h.2
  have ne : ∀ d : UInt8, c.toNat ≠ d.toNat → c ≠ d := fun d hd e => hd (by rw [e])
  refine ⟨ne _ ?_, ne _ ?_, ne _ ?_, ne _ ?_, ne _ ?_, ne _ ?_, ne _ ?_, ?_, by omega⟩
  · show c.toNat ≠ 32; omega
  · show c.toNat ≠ 45; omega
  · show c.toNat ≠ 47; omega
  · show c.toNat ≠ 58; omega
  · show c.toNat ≠ 59; omega
  · show c.toNat ≠ 61; omega
  · show c.toNat ≠ 124; omega
  · cases hs : Lib.isSp c with
    | false => rfl
    | true =>
      exfalso
      simp only [Lib.isSp, Bool.or_eq_true, beq_iff_eq] at hs
      rcases hs with ((((rfl | rfl) | rfl) | rfl) | rfl) | rfl <;> revert h1 <;> decide
theorem index_no {b : UInt8} : ∀ {l : List UInt8}, (∀ x ∈ l, x ≠ b) → Lib.index l [b] = -1
  | [], _ => by simp [Lib.index]
  | c :: l, h => by
    have hc : c ≠ b := h c (List.mem_cons_self ..)
    have ih := index_no (l := l) (fun x hx => h x (List.mem_cons_of_mem _ hx))
    have hp : ([b] : List UInt8).isPrefixOf (c :: l) = false := by simp [List.isPrefixOf, Ne.symm hc]
    have hx : Lib.index (c :: l) [b] = if Lib.index l [b] == -1 then -1 else Lib.index l [b] + 1 := by rw [Lib.index, hp]; simp
    rw [hx, ih]; rfl
theorem cut_no {b : UInt8} {l : List UInt8} (h : ∀ x ∈ l, x ≠ b) : Lib.cut l [b] = (l, [], false) := by
  unfold Lib.cut
  rw [index_no h, if_neg (by omega)]
theorem cut_cases (b : UInt8) (l : List UInt8) : (∀ x ∈ l, x ≠ b) ∨ ∃ p r, l = p ++ b :: r ∧ ∀ x ∈ p, x ≠ b := by
  by_cases h : b ∈ l
  · obtain ⟨p, r, e, hp⟩ := List.eq_append_cons_of_mem h
    exact .inr ⟨p, r, e, fun x hx e => hp (e ▸ hx)⟩
  · exact .inl fun x hx e => h (e ▸ hx)
theorem bytes_eq {a b : ByteArray} (h : a.data.toList = b.data.toList) : a = b := by apply ByteArray.ext; apply Array.ext'; exact h
theorem lists_eq {L : List ByteArray} {M : List ByteArray} (h : L.map (·.data.toList) = M.map (·.data.toList)) : L = M :=
  (List.map_inj_right (fun a b => bytes_eq)).1 h
/-- What the program cuts off ahead of a byte, and behind it. -/
def cutA (s : ByteArray) (b : UInt8) : ByteArray := ⟨(Lib.cut s.data.toList [b]).1.toArray⟩
def cutB (s : ByteArray) (b : UInt8) : ByteArray := ⟨(Lib.cut s.data.toList [b]).2.1.toArray⟩

end Go.Proofs.YtbhnaakknfienaaGreatDoor
namespace Go.Proofs.YtbhnaakknfienaaGreatDoor
open Go.RowKit
set_option linter.unusedVariables false

def bt1 (l : List UInt8) : ByteArray := ⟨l.toArray⟩
theorem bt1_list (l : List UInt8) : (bt1 l).data.toList = l := rfl
theorem bt1_txt (n : Nat) : bt1 (Lib.decDigits n) = txt n := rfl
/-- A number with at most k digits. -/
theorem txt_le : ∀ (k n : Nat), 1 ≤ k → n < 10 ^ k → (txt n).size ≤ k
  | 0, _, h, _ => by omega
  | k + 1, n, _, h => by
    by_cases h1 : n < 10
    · rw [txt_one h1]
      show 1 ≤ k + 1
      omega
    · rw [Nat.pow_succ] at h
      have hk : 1 ≤ k := by
        rcases Nat.eq_zero_or_pos k with h0 | h0
        · subst h0; omega
        · exact h0
      have ih := txt_le k (n / 10) hk (by omega)
      rw [txt_more h1, ByteArray.size_append]
      show (txt (n / 10)).size + 1 ≤ k + 1
      omega
/-- The library's pieces at one byte are the reference's. -/
theorem split_same (s : ByteArray) (b : UInt8) : Lib.splitB ⟨#[b]⟩ 0 (Lib.countB s ⟨#[b]⟩) s = splitS s b := by
  apply lists_eq
  rw [splitS_list, Lib.splitB_data, ← split_one b s.data.toList]
  rfl
theorem count_same (s : ByteArray) (b : UInt8) : Lib.countB s ⟨#[b]⟩ + 1 = (splitS s b).length := by
  rw [← split_same, Lib.splitB_all ⟨#[b]⟩ (by show 1 ≤ 1; omega) 0 _ s rfl]
theorem splitS_len (s : ByteArray) (b : UInt8) : (splitS s b).length ≤ s.size + 1 := by
  rw [splitS, List.length_append, List.length_singleton]
  have := (cutD_le s b s.size).2
  omega
theorem splitS_pos (s : ByteArray) (b : UInt8) : 1 ≤ (splitS s b).length := by rw [splitS]; simp
theorem splitS_size (s : ByteArray) (b : UInt8) {x : ByteArray} (h : x ∈ splitS s b) : x.size ≤ s.size := by
  have aux : ∀ i, i ≤ s.size → ∀ y ∈ (cutD s b i).1, y.size ≤ s.size := by
    intro i
    induction i with
    | zero => intro _ y hy; cases hy
    | succ i ih =>
      intro hi y hy
      rw [cutD] at hy
      split at hy
      · rw [List.mem_append, List.mem_singleton] at hy
        rcases hy with hy | rfl
        · exact ih (by omega) y hy
        · rw [ByteArray.size_extract]; omega
      · exact ih (by omega) y hy
  rw [splitS, List.mem_append, List.mem_singleton] at h
  rcases h with h | rfl
  · exact aux _ (Nat.le_refl _) x h
  · rw [ByteArray.size_extract]; omega
/-- Pieces with the byte behind each are a first piece and pieces with the byte ahead of each, and the byte. -/
theorem ends_begins (b : UInt8) : ∀ (ps : List (List UInt8)) (p : List UInt8), (p :: ps).flatMap (· ++ [b]) = (p ++ ps.flatMap (b :: ·)) ++ [b]
  | [], p => by simp
  | q :: ps, p => by
    have ih := ends_begins b ps q
    rw [List.flatMap_cons, ih, List.flatMap_cons]
    simp
theorem trim_byte (X : List UInt8) (b : UInt8) : Lib.trimSuffix (X ++ [b]) [b] = X := by
  have h : Lib.hasSuffix (X ++ [b]) [b] = true := by
    unfold Lib.hasSuffix
    simp
  unfold Lib.trimSuffix
  rw [if_pos h]
  simp
theorem tail_extract {s : ByteArray} {c : UInt8} {r : List UInt8} (h : s.data.toList = c :: r) : s.extract 1 s.size = bt1 r := by
  apply bytes_eq
  have hz : s.data.toList.take s.size = s.data.toList := List.take_of_length_le (Nat.le_refl _)
  rw [extract_list, hz, h]
  rfl
end Go.Proofs.YtbhnaakknfienaaGreatDoor
namespace Go.Proofs.YtbhnaakknfienaaGreatDoor
open Go.RowKit
set_option linter.unusedVariables false

/-- The library's bound on texts, some integer. -/
def MaxIs (w : World) : Prop := ∃ m : Int, w.cell? ⟨2, 0, none⟩ = some (.int .i64 m)
theorem MaxIs.below {w w' : World} (h : MaxIs w) (hb : Below w.heap.size w w') : MaxIs w' := let ⟨m, e⟩ := h; ⟨m, cell_on e hb⟩
structure TxtEnv (w : World) : Prop where
  num : NumEnv w
  max : MaxIs w
theorem TxtEnv.below {w w' : World} (h : TxtEnv w) (hb : Below w.heap.size w w') : TxtEnv w' := ⟨h.num.below hb, h.max.below hb⟩

theorem cut_any (s : ByteArray) (b : UInt8) (w : World) (hs : s.size ≤ 2000000) (he : MaxIs w) :
    Calls Tryz.prog 86 #[.string s, .string ⟨#[b]⟩] w fun e w' => e = .returned (.tuple #[.string (cutA s b), .string (cutB s b), .bool (Lib.cut s.data.toList [b]).2.2]) ∧ Below w.heap.size w w' := by
  obtain ⟨m, hm⟩ := he
  refine (Tryz.strings_Cut s ⟨#[b]⟩ m w (by omega) hm).mono fun e w' ⟨h1, n, h2⟩ => ⟨h1, ?_⟩
  rw [h2]
  exact below_drewN (Below.refl _ _) n
end Go.Proofs.YtbhnaakknfienaaGreatDoor
namespace Go.Proofs.YtbhnaakknfienaaGreatDoor
open Go.RowKit
set_option linter.unusedVariables false

def wordsF (s : ByteArray) : List ByteArray := (Lib.fieldsD s.data.toList).map fun x => ⟨x.toArray⟩
theorem goD_size : ∀ (f : Nat) (cur l : List UInt8), ∀ x ∈ Lib.fieldsGoD f cur l, x.length ≤ cur.length + l.length
  | 0, cur, l, x, hx => by
    rw [Lib.fieldsGoD] at hx
    split at hx
    · cases hx
    · rw [List.mem_singleton] at hx; subst hx; omega
  | f + 1, cur, l, x, hx => by
    rw [Lib.fieldsGoD] at hx
    split at hx
    · split at hx
      · cases hx
      · rw [List.mem_singleton] at hx; subst hx; omega
    · split at hx
      · rw [List.mem_append] at hx
        rcases hx with hx | hx
        · split at hx
          · cases hx
          · rw [List.mem_singleton] at hx; subst hx; omega
        · have := goD_size f [] _ x hx
          rw [List.length_drop] at this
          simp only [List.length_nil] at this
          omega
      · have := goD_size f _ _ x hx
        rw [List.length_append, List.length_take, List.length_drop] at this
        omega
theorem goD_length : ∀ (f : Nat) (cur l : List UInt8), (Lib.fieldsGoD f cur l).length ≤ f + 1
  | 0, cur, l => by
    rw [Lib.fieldsGoD]
    split <;> simp
  | f + 1, cur, l => by
    rw [Lib.fieldsGoD]
    split
    · split <;> simp
    · split
      · have := goD_length f [] (l.drop (Lib.decodeL l).2)
        rw [List.length_append]
        split
        · simp only [List.length_nil]; omega
        · simp only [List.length_singleton]; omega
      · have := goD_length f (cur ++ l.take (Lib.decodeL l).2) (l.drop (Lib.decodeL l).2)
        omega
theorem wordsF_size {s x : ByteArray} (h : x ∈ wordsF s) : x.size ≤ s.size := by
  obtain ⟨l, hl, rfl⟩ := List.mem_map.1 h
  have := goD_size _ [] _ l hl
  show l.length ≤ s.data.toList.length
  simpa using this
theorem wordsF_length (s : ByteArray) : (wordsF s).length ≤ s.size + 2 := by
  rw [wordsF, List.length_map]
  exact goD_length _ _ _
end Go.Proofs.YtbhnaakknfienaaGreatDoor
namespace Go.Proofs.YtbhnaakknfienaaGreatDoor
open Go.RowKit
set_option linter.unusedVariables false

/-- What the cut into words leans on: the library's tables of white space. -/
structure FldEnv (w : World) : Prop where
  asc : Lib.TabIs Tryz.prog w "strings.asciiSpace" .u8 Lib.asciiSpaceTab
  wht : Lib.WhiteTab 1 w
theorem tabIs_below {w w' : World} {nm : String} {k : IntKind} {zs : List Int} (hg : (Tryz.prog.globalNamed nm).isSome = true) (h : Lib.TabIs Tryz.prog w nm k zs) (hb : Below w.heap.size w w') : Lib.TabIs Tryz.prog w' nm k zs := by
  obtain ⟨g, hg⟩ := Option.isSome_iff_exists.1 hg
  unfold Lib.TabIs World.var? at h ⊢
  rw [hg] at h ⊢
  simp only [Option.bind_some] at h ⊢
  have hlt : g < w.heap.size := by
    rcases Nat.lt_or_ge g w.heap.size with h' | h'
    · exact h'
    · rw [Array.getElem?_eq_none h'] at h; cases h
  rw [hb.block g hlt]
  exact h
theorem FldEnv.below {w w' : World} (h : FldEnv w) (hb : Below w.heap.size w w') : FldEnv w' := ⟨tabIs_below (by kernel_rfl) h.asc hb, WhiteTab_below h.wht hb⟩

/-- All that the program's reading of words leans on. -/
structure WrdEnv (w : World) : Prop where
  txt : TxtEnv w
  fld : FldEnv w
theorem WrdEnv.below {w w' : World} (h : WrdEnv w) (hb : Below w.heap.size w w') : WrdEnv w' := ⟨h.txt.below hb, h.fld.below hb⟩

theorem words_any (s : ByteArray) (w : World) (hs : s.size ≤ 2000000) (he : FldEnv w) :
    Calls Tryz.prog 88 #[.string s] w fun e w' => (∃ g n : Nat, e = .returned (.slice (some ⟨g, 0, none⟩) n n) ∧ n = (wordsF s).length ∧ (w.heap.size ≤ g ∧ g < w'.heap.size) ∧ Rd w' (some ⟨g, 0, none⟩) ((wordsF s).map Value.string)) ∧ Below w.heap.size w w' := by
  refine (Tryz.strings_Fields_any s w (by omega) he.asc he.wht).mono fun e w' ⟨A, h1, hA, h2, h3⟩ => ⟨⟨A, _, h1, ?_, ⟨hA, (h2.lt A rfl).2⟩, ?_⟩, h3⟩
  · rw [wordsF, List.length_map]
  · have := own_rd h2
    rw [wordsF, List.map_map]
    exact this
end Go.Proofs.YtbhnaakknfienaaGreatDoor
namespace Go.Proofs.YtbhnaakknfienaaGreatDoor
open Go.RowKit
set_option linter.unusedVariables false

/-- One street's text. -/
def tt1 (x : StT) : ByteArray := (((((⟨#[32]⟩ : ByteArray) ++ txt x.1.toNat) ++ ⟨#[45]⟩) ++ txt x.2.1.toNat) ++ ⟨#[61]⟩) ++ txt x.2.2.toNat
/-- The text of the first j streets, behind the number of nodes. -/
def ttN (k : Nat) (l : List StT) : Nat → ByteArray
  | 0 => txt k ++ ⟨#[58]⟩
  | j + 1 => match l[j]? with
    | some x => ttN k l j ++ tt1 x
    | none => ttN k l j
theorem ttN_succ {k : Nat} {l : List StT} {j : Nat} {x : StT} (h : l[j]? = some x) : ttN k l (j + 1) = ttN k l j ++ tt1 x := by rw [ttN, h]
theorem size_lit (c : UInt8) : (⟨#[c]⟩ : ByteArray).size = 1 := rfl
theorem tt1_size {k : Nat} {l : List StT} (hk : TownOk k l) {x : StT} (h : x ∈ l) : (tt1 x).size ≤ 66 := by
  have hf := fitB_iff.1 (hk.fits x h)
  have h14 := hk.hi
  unfold tt1
  have h1 := txt_size x.1.toNat (by omega)
  have h2 := txt_size x.2.1.toNat (by omega)
  have h3 := txt_size x.2.2.toNat (by omega)
  simp only [ByteArray.size_append, size_lit]
  omega
theorem ttN_size {k : Nat} {l : List StT} (hk : TownOk k l) : ∀ j, (ttN k l j).size ≤ 22 + 66 * j
  | 0 => by
    have h1 := txt_size k (by have := hk.hi; omega)
    rw [ttN, ByteArray.size_append, size_lit]
    omega
  | j + 1 => by
    have ih := ttN_size hk j
    cases hx : l[j]? with
    | none => simp only [ttN, hx]; omega
    | some x =>
      rw [ttN_succ hx, ByteArray.size_append]
      have := tt1_size hk (List.mem_of_getElem? hx)
      omega

set_option maxRecDepth 100000 in
set_option maxHeartbeats 4000000 in
theorem toText_any (k n c : Nat) (A : Option Addr) (l : List StT) (w : World) (hn : n = l.length) (hk : TownOk k l) (hr : Rd w A (l.flatMap tcells)) :
    Calls Tryz.prog 63 #[.agg #[.int .i64 (k : Int), .slice A n c]] w fun e w' => e = .returned (.string (ttN k l n)) ∧ Below w.heap.size w w' := by
  have Hn := hide hn
  have HK := hide hk
  have Hr := hide (hr.alloc (.cells #[.int .i64 (k : Int), .slice A n c] 26))
  have HB := hide (below_alloc (Below.refl w.heap.size w) (.cells #[.int .i64 (k : Int), .slice A n c] 26))
  have HF := hide (Row.new w #[.int .i64 (k : Int), .slice A n c] 26)
  have hn40 : n ≤ 40 := by have := hk.len; omega
  have hk14 : k ≤ 14 := hk.hi
  have hkz := txt_size k (by omega)
  clear hn hk hr
  go_enter Tryz.func63, Tryz.ntmps63
  go_wp2_with fail
  refine (num_any k (by omega) _).mono ?_
  rintro e w1 ⟨rfl, hq⟩
  have HR1 := hide (Hr.out.below hq)
  have HB1 := hide (below_step HB.out hq)
  have a1 := (HF.out.below hq).2.1 1 _ rfl
  have az := (HF.out.below hq).1
  clear hq
  go_wp2_with fail
  clear a1 az
  go_loopg [13, 3] n (fun g t s wr => ∃ (j : Nat) (b : ByteArray), t = .int .i64 (j : Int) ∧ s = .string b ∧ j ≤ n ∧ b.size ≤ 3000 ∧ Hid (n ≤ g + j) ∧ Hid (b = ttN k l j) ∧ Hid (Below w1.heap.size w1 wr))
  case atStart => exact ⟨0, _, rfl, rfl, by omega, by rw [ByteArray.size_append, size_lit]; omega, hide (by omega), hide rfl, hide (Below.refl _ _)⟩
  case round =>
    obtain ⟨j, b, rfl, rfl, hj, hbs, HG, HE, HW⟩ := hrel
    by_cases hlt : j < n
    · obtain ⟨⟨x0, x1, x2⟩, hx⟩ : ∃ x, l[j]? = some x := ⟨_, List.getElem?_eq_getElem (by rw [← Hn.out]; exact hlt)⟩
      have hf := fitB_iff.1 (HK.out.fits _ (List.mem_of_getElem? hx))
      dsimp only at hf
      obtain ⟨y0, rfl⟩ := Int.eq_ofNat_of_zero_le (show 0 ≤ x0 by omega)
      obtain ⟨y1, rfl⟩ := Int.eq_ofNat_of_zero_le (show 0 ≤ x1 by omega)
      obtain ⟨y2, rfl⟩ := Int.eq_ofNat_of_zero_le (show 0 ≤ x2 by omega)
      have HX := hide hx
      obtain ⟨bs, os, rfl, zs, t0, t1, t2⟩ := (HR1.out.below HW.out).get3 (fun _ => rfl) hx rfl
      dsimp only at t0 t1 t2
      have v0 : y0 < 10000000 := by omega
      have v1 : y1 < 10000000 := by omega
      have v2 : y2 < 10000000 := by omega
      have s0 := txt_size y0 (by omega)
      have s1 := txt_size y1 (by omega)
      have s2 := txt_size y2 (by omega)
      have u4 : (0 : Int) ≤ (j : Int) := by omega
      have u5 : (j : Int) < (n : Int) := by omega
      clear hx hf
      go_wp2_with fail
      have HSB := hide (Row.new wr #[.int .i64 (y0 : Int), .int .i64 (y1 : Int), .int .i64 (y2 : Int)] 39)
      refine wp_region_later (by kernel_rfl) (by kernel_rfl) ?_
      repeat (go_big_quiet_step ((go_at_call 85; (first | with_reducible exact calls_later (num_any y0 v0 _) | with_reducible exact calls_later (num_any y1 v1 _) | with_reducible exact calls_later (num_any y2 v2 _)))))
      refine wpQuiet_nil ?_
      refine later_intro fun w5 hb5 => ?_
      have HB5 := hide (below_step (below_alloc HW.out (.cells #[.int .i64 (y0 : Int), .int .i64 (y1 : Int), .int .i64 (y2 : Int)] 39)) hb5)
      clear hb5 t0 t1 t2 zs
      have HS := hide (show b ++ ((((((⟨#[32]⟩ : ByteArray) ++ txt y0) ++ ⟨#[45]⟩) ++ txt y1) ++ ⟨#[61]⟩) ++ txt y2) = ttN k l (j + 1) by rw [ttN_succ HX.out, HE.out]; rfl)
      have HZ := hide (show (ttN k l (j + 1)).size ≤ 3000 from Nat.le_trans (ttN_size HK.out (j + 1)) (by omega))
      clear s0 s1 s2 v0 v1 v2 hbs hkz
      go_wp2
      go_roundg (gk - 1)
      case rel => exact ⟨j + 1, _, by go_num, rfl, by omega, by rw [HS.out]; exact HZ.out, hide (by have := HG.out; omega), hide HS.out, HB5⟩
      case measure => have := HG.out; omega
    · have hkn : ((j : Int) < (n : Int)) = False := by simp; omega
      have HJ := hide (show ttN k l j = ttN k l n by rw [show j = n by omega])
      go_wp2
      go_ret
      exact ⟨by rw [← HJ.out, ← HE.out]; rfl, below_step HB1.out HW.out⟩

set_option maxRecDepth 100000 in
set_option maxHeartbeats 4000000 in
theorem text_any (b0 k n c : Nat) (A : Option Addr) (l : List StT) (w : World) (hn : n = l.length) (hk : TownOk k l) (hr : Rd w A (l.flatMap tcells)) (hc0 : w.cell? ⟨b0, 0, none⟩ = some (.int .i64 (k : Int))) (hc1 : w.cell? ⟨b0, 1, none⟩ = some (.slice A n c)) (ht : Tab w) :
    Calls Tryz.prog 62 #[.pointer (some ⟨b0, 0, none⟩)] w fun e w' => e = .returned (.string (ttN k l n)) ∧ Below w.heap.size w w' := by
  have Hn := hide hn
  have HK := hide hk
  have Hr := hide hr
  have HC1 := hide hc1
  have HT := hide ht
  have hz := World.block_lt_of_cell? w _ hc0
  dsimp only at hz
  have hn40 : n ≤ 40 := by have := hk.len; omega
  have hk14 : k ≤ 14 := hk.hi
  have hkz := txt_size k (by omega)
  clear hn hk hr ht hc1
  go_enter Tryz.func62, Tryz.ntmps62
  go_wp2_with fail
  refine (itoa_any k (by omega) _ HT.out).mono ?_
  rintro e w1 ⟨rfl, hq⟩
  have HR1 := hide (Hr.out.below hq)
  have HT1 := hide (tab_below HT.out hq)
  have HB1 := hide hq
  have a1 := cell_on HC1.out hq
  have az : b0 < w1.heap.size := Nat.lt_of_lt_of_le hz hq.size
  clear hq hc0
  go_wp2_with fail
  clear a1 az hz
  go_loopg [17, 3] n (fun g t s wr => ∃ (j : Nat) (b : ByteArray), t = .int .i64 (j : Int) ∧ s = .string b ∧ j ≤ n ∧ b.size ≤ 3000 ∧ Hid (n ≤ g + j) ∧ Hid (b = ttN k l j) ∧ Hid (Below w1.heap.size w1 wr))
  case atStart => exact ⟨0, _, rfl, rfl, by omega, by rw [ByteArray.size_append, size_lit]; omega, hide (by omega), hide rfl, hide (Below.refl _ _)⟩
  case round =>
    obtain ⟨j, b, rfl, rfl, hj, hbs, HG, HE, HW⟩ := hrel
    by_cases hlt : j < n
    · obtain ⟨⟨x0, x1, x2⟩, hx⟩ : ∃ x, l[j]? = some x := ⟨_, List.getElem?_eq_getElem (by rw [← Hn.out]; exact hlt)⟩
      have hf := fitB_iff.1 (HK.out.fits _ (List.mem_of_getElem? hx))
      dsimp only at hf
      obtain ⟨y0, rfl⟩ := Int.eq_ofNat_of_zero_le (show 0 ≤ x0 by omega)
      obtain ⟨y1, rfl⟩ := Int.eq_ofNat_of_zero_le (show 0 ≤ x1 by omega)
      obtain ⟨y2, rfl⟩ := Int.eq_ofNat_of_zero_le (show 0 ≤ x2 by omega)
      have HX := hide hx
      obtain ⟨bs, os, rfl, zs, t0, t1, t2⟩ := (HR1.out.below HW.out).get3 (fun _ => rfl) hx rfl
      dsimp only at t0 t1 t2
      have v0 : y0 ≤ 9223372036854775807 := by omega
      have v1 : y1 ≤ 9223372036854775807 := by omega
      have v2 : y2 ≤ 9223372036854775807 := by omega
      have s0 := txt_size y0 (by omega)
      have s1 := txt_size y1 (by omega)
      have s2 := txt_size y2 (by omega)
      have u4 : (0 : Int) ≤ (j : Int) := by omega
      have u5 : (j : Int) < (n : Int) := by omega
      have HTW := hide (tab_below HT1.out HW.out)
      have HTL := hide (fun (m : Later (wr.alloc (.cells #[.int .i64 (y0 : Int), .int .i64 (y1 : Int), .int .i64 (y2 : Int)] 39))) => tab_below HTW.out (below_step (below_alloc (Below.refl _ _) _) m.below))
      clear hx hf
      go_wp2_with fail
      refine wp_region_later (by kernel_rfl) (by kernel_rfl) ?_
      repeat (go_big_quiet_step ((go_at_call 84; (first | with_reducible exact calls_later (itoa_any y0 v0 _ (HTL.out _)) | with_reducible exact calls_later (itoa_any y1 v1 _ (HTL.out _)) | with_reducible exact calls_later (itoa_any y2 v2 _ (HTL.out _))))))
      refine wpQuiet_nil ?_
      refine later_intro fun w5 hb5 => ?_
      have HB5 := hide (below_step (below_alloc HW.out (.cells #[.int .i64 (y0 : Int), .int .i64 (y1 : Int), .int .i64 (y2 : Int)] 39)) hb5)
      clear hb5 t0 t1 t2 zs
      have HS := hide (show b ++ ((((((⟨#[32]⟩ : ByteArray) ++ txt y0) ++ ⟨#[45]⟩) ++ txt y1) ++ ⟨#[61]⟩) ++ txt y2) = ttN k l (j + 1) by rw [ttN_succ HX.out, HE.out]; rfl)
      have HZ := hide (show (ttN k l (j + 1)).size ≤ 3000 from Nat.le_trans (ttN_size HK.out (j + 1)) (by omega))
      clear s0 s1 s2 v0 v1 v2 hbs hkz
      go_wp2
      go_roundg (gk - 1)
      case rel => exact ⟨j + 1, _, by go_num, rfl, by omega, by rw [HS.out]; exact HZ.out, hide (by have := HG.out; omega), hide HS.out, HB5⟩
      case measure => have := HG.out; omega
    · have hkn : ((j : Int) < (n : Int)) = False := by simp; omega
      have HJ := hide (show ttN k l j = ttN k l n by rw [show j = n by omega])
      go_wp2
      go_ret
      exact ⟨by rw [← HJ.out, ← HE.out]; rfl, below_step HB1.out HW.out⟩
end Go.Proofs.YtbhnaakknfienaaGreatDoor
namespace Go.Proofs.YtbhnaakknfienaaGreatDoor
open Go.RowKit
set_option linter.unusedVariables false

/-- A street's word. -/
def ndL (x : StT) : List UInt8 := Lib.decDigits x.1.toNat ++ 45 :: Lib.decDigits x.2.1.toNat
def wdL (x : StT) : List UInt8 := ndL x ++ 61 :: Lib.decDigits x.2.2.toNat
theorem tt1_list (x : StT) : (tt1 x).data.toList = 32 :: wdL x := by
  simp [tt1, wdL, ndL, txt, ByteArray.data_append]
theorem ttN_list (k : Nat) (l : List StT) : ∀ j, j ≤ l.length → (ttN k l j).data.toList = (Lib.decDigits k ++ [58]) ++ ((l.take j).map wdL).flatMap (32 :: ·)
  | 0, _ => by simp [ttN, txt, ByteArray.data_append]
  | j + 1, h => by
    have hx : l[j]? = some l[j] := List.getElem?_eq_getElem (by omega)
    rw [ttN_succ hx, ByteArray.data_append, Array.toList_append, ttN_list k l j (by omega), tt1_list, List.take_succ_eq_append_getElem (by omega), List.map_append, List.flatMap_append]
    simp
theorem nd_no (x : StT) : ∀ c ∈ ndL x, c ≠ 61 ∧ c ≠ 32 ∧ Lib.isSp c = false ∧ c.toNat < 128 := by
  intro c hc
  rw [ndL, List.mem_append, List.mem_cons] at hc
  rcases hc with hc | rfl | hc
  · have := dig_facts (dec_digs _ c hc); exact ⟨this.2.2.2.2.2.1, this.1, this.2.2.2.2.2.2.2.1, this.2.2.2.2.2.2.2.2⟩
  · decide
  · have := dig_facts (dec_digs _ c hc); exact ⟨this.2.2.2.2.2.1, this.1, this.2.2.2.2.2.2.2.1, this.2.2.2.2.2.2.2.2⟩
theorem wd_no (x : StT) : ∀ c ∈ wdL x, c ≠ 32 ∧ Lib.isSp c = false ∧ c.toNat < 128 := by
  intro c hc
  rw [wdL, List.mem_append, List.mem_cons] at hc
  rcases hc with hc | rfl | hc
  · exact (nd_no x c hc).2
  · decide
  · have := dig_facts (dec_digs _ c hc); exact ⟨this.1, this.2.2.2.2.2.2.2.1, this.2.2.2.2.2.2.2.2⟩

/-- What the program reads of a word. -/
def strI (v : ByteArray) : StT := (rnV (cutA (cutA v 61) 45), rnV (cutB (cutA v 61) 45), rnV (cutB v 61))
def okI (v : ByteArray) : Bool := rnOk (cutA (cutA v 61) 45) && rnOk (cutB (cutA v 61) 45) && rnOk (cutB v 61)
def wordsI (s : ByteArray) : List ByteArray := wordsF (cutB s 58)
/-- What the reference reads of a word. -/
def strS (v : ByteArray) : StT :=
  let w := splitS v 61
  let u := splitS (w.headD ByteArray.empty) 45
  if w.length = 2 ∧ u.length = 2 then (readS (u.getD 0 ByteArray.empty), readS (u.getD 1 ByteArray.empty), readS (w.getD 1 ByteArray.empty)) else (-1, 0, 0)
def bt (l : List UInt8) : ByteArray := ⟨l.toArray⟩
theorem bt_list (l : List UInt8) : (bt l).data.toList = l := rfl
theorem fit_nat {k : Nat} {l : List StT} (hk : TownOk k l) {x : StT} (h : x ∈ l) : ((x.1.toNat : Int) = x.1 ∧ (x.2.1.toNat : Int) = x.2.1 ∧ (x.2.2.toNat : Int) = x.2.2) ∧ x.1.toNat < 1000000 ∧ x.2.1.toNat < 1000000 ∧ x.2.2.toNat < 1000000 := by
  have hf := fitB_iff.1 (hk.fits x h)
  have h14 := hk.hi
  omega
theorem word_cut (x : StT) : cutA (bt (wdL x)) 61 = bt (ndL x) ∧ cutB (bt (wdL x)) 61 = txt x.2.2.toNat ∧ cutA (bt (ndL x)) 45 = txt x.1.toNat ∧ cutB (bt (ndL x)) 45 = txt x.2.1.toNat := by
  have c1 : Lib.cut (wdL x) [61] = (ndL x, Lib.decDigits x.2.2.toNat, true) := cut_byte (fun c hc => (nd_no x c hc).1)
  have c2 : Lib.cut (ndL x) [45] = (Lib.decDigits x.1.toNat, Lib.decDigits x.2.1.toNat, true) := cut_byte (fun c hc => (dig_facts (dec_digs _ c hc)).2.1)
  unfold cutA cutB
  rw [bt_list, bt_list, c1, c2]
  exact ⟨rfl, rfl, rfl, rfl⟩
theorem wordI {k : Nat} {l : List StT} (hk : TownOk k l) {x : StT} (h : x ∈ l) : strI (bt (wdL x)) = x ∧ okI (bt (wdL x)) = true := by
  obtain ⟨⟨e0, e1, e2⟩, h0, h1, h2⟩ := fit_nat hk h
  obtain ⟨a, b, c, d⟩ := word_cut x
  unfold strI okI
  rw [a, b, c, d, rnV_txt _ (by omega), rnV_txt _ (by omega), rnV_txt _ (by omega), rnOk_txt _ (by omega), rnOk_txt _ (by omega), rnOk_txt _ (by omega), e0, e1, e2]
  exact ⟨rfl, rfl⟩
theorem wordS {k : Nat} {l : List StT} (hk : TownOk k l) {x : StT} (h : x ∈ l) : strS (bt (wdL x)) = x := by
  obtain ⟨⟨e0, e1, e2⟩, h0, h1, h2⟩ := fit_nat hk h
  have s1 : splitS (bt (wdL x)) 61 = [bt (ndL x), txt x.2.2.toNat] := by
    apply lists_eq
    rw [splitS_list, bt_list, wdL, splitL_cut _ (fun c hc => (nd_no x c hc).1), splitL_none (fun c hc => (dig_facts (dec_digs _ c hc)).2.2.2.2.2.1)]
    rfl
  have s2 : splitS (bt (ndL x)) 45 = [txt x.1.toNat, txt x.2.1.toNat] := by
    apply lists_eq
    rw [splitS_list, bt_list, ndL, splitL_cut _ (fun c hc => (dig_facts (dec_digs _ c hc)).2.1), splitL_none (fun c hc => (dig_facts (dec_digs _ c hc)).2.1)]
    rfl
  unfold strS
  rw [s1]
  show (if [bt (ndL x), txt x.2.2.toNat].length = 2 ∧ (splitS (bt (ndL x)) 45).length = 2 then (readS ((splitS (bt (ndL x)) 45).getD 0 ByteArray.empty), readS ((splitS (bt (ndL x)) 45).getD 1 ByteArray.empty), readS (txt x.2.2.toNat)) else (-1, 0, 0)) = x
  rw [s2]
  show (readS (txt x.1.toNat), readS (txt x.2.1.toNat), readS (txt x.2.2.toNat)) = x
  rw [readS_txt _ h0, readS_txt _ h1, readS_txt _ h2, e0, e1, e2]
theorem text_list {k : Nat} {l : List StT} : (ttN k l l.length).data.toList = (Lib.decDigits k ++ [58]) ++ (l.map wdL).flatMap (32 :: ·) := by
  rw [ttN_list k l _ (Nat.le_refl _), List.take_length]
theorem dec58 (k : Nat) : ∀ x ∈ Lib.decDigits k, x ≠ 58 := fun x hx => (dig_facts (dec_digs _ x hx)).2.2.2.1
theorem wd_ne (x : StT) : wdL x ≠ [] := by
  intro e
  have := congrArg List.length e
  simp [wdL] at this
/-- The program reads back the text of every town. -/
theorem readI {k : Nat} {l : List StT} (hk : TownOk k l) {s : ByteArray} (h : ttN k l l.length = s) : rnV (cutA s 58) = k ∧ rnOk (cutA s 58) = true ∧ (wordsI s).map strI = l ∧ (wordsI s).all okI = true := by
  have hl : s.data.toList = Lib.decDigits k ++ 58 :: (l.map wdL).flatMap (32 :: ·) := by rw [← h, text_list, List.append_assoc]; rfl
  have hc := cut_byte (r := (l.map wdL).flatMap (32 :: ·)) (dec58 k)
  rw [← hl] at hc
  have h14 := hk.hi
  have ha : cutA s 58 = txt k := by rw [cutA, hc]; rfl
  have hb : (cutB s 58).data.toList = (l.map wdL).flatMap (32 :: ·) := by rw [cutB, hc]
  have hw : wordsI s = l.map fun x => bt (wdL x) := by
    have hasc : ∀ b ∈ (l.map wdL).flatMap (32 :: ·), b.toNat < 128 := by
      intro b hb
      obtain ⟨v, hv, hbv⟩ := List.mem_flatMap.1 hb
      obtain ⟨x, _, rfl⟩ := List.mem_map.1 hv
      rcases List.mem_cons.1 hbv with rfl | hbv
      · decide
      · exact (wd_no x b hbv).2.2
    rw [wordsI, wordsF, hb, Lib.fieldsD_ascii _ hasc, fields_begins (ws := l.map wdL) (by
      intro v hv
      obtain ⟨x, _, rfl⟩ := List.mem_map.1 hv
      exact ⟨wd_ne x, fun c hc => (wd_no x c hc).2.1⟩), List.map_map]
    rfl
  rw [ha, hw]
  refine ⟨rnV_txt k (by omega), rnOk_txt k (by omega), ?_, ?_⟩
  · rw [List.map_map]
    have : ∀ x ∈ l, (strI ∘ fun x => bt (wdL x)) x = id x := fun x hx => (wordI hk hx).1
    rw [List.map_congr_left this, List.map_id]
  · rw [List.all_map, List.all_eq_true]
    exact fun x hx => (wordI hk hx).2
/-- And so does the reference. -/
theorem readT {k : Nat} {l : List StT} (hk : TownOk k l) {s : ByteArray} (h : ttN k l l.length = s) : ∃ w0 ws, splitS s 32 = w0 :: ws ∧ 2 ≤ w0.size ∧ w0.extract 0 (w0.size - 1) = txt k ∧ readS (w0.extract 0 (w0.size - 1)) = k ∧ ws.length = l.length ∧ ws.map strS = l := by
  have hl : s.data.toList = (Lib.decDigits k ++ [58]) ++ (l.map wdL).flatMap (32 :: ·) := by rw [← h, text_list]
  have h14 := hk.hi
  have hs : splitS s 32 = (txt k ++ ⟨#[58]⟩) :: l.map fun x => bt (wdL x) := by
    apply lists_eq
    rw [splitS_list, hl, splitL_begins (ps := l.map wdL) (p := Lib.decDigits k ++ [58]) (by
      intro x hx
      rw [List.mem_append, List.mem_singleton] at hx
      rcases hx with hx | rfl
      · exact (dig_facts (dec_digs _ x hx)).1
      · decide) (by
      intro v hv x hx
      obtain ⟨y, _, rfl⟩ := List.mem_map.1 hv
      exact (wd_no y x hx).1)]
    rw [List.map_cons, List.map_map]
    congr 1
  have hz : (txt k ++ ⟨#[58]⟩ : ByteArray).size = (txt k).size + 1 := by rw [ByteArray.size_append, size_lit]
  have he : (txt k ++ ⟨#[58]⟩ : ByteArray).extract 0 (txt k).size = txt k := by
    apply bytes_eq
    rw [extract_list, ByteArray.data_append, Array.toList_append, List.drop_zero]
    exact List.take_left' (by rfl)
  have hp : 1 ≤ (txt k).size := by
    have h1 : (txt k).size = Lib.nDigits k := by rw [← Lib.decDigits_length]; rfl
    rw [h1]; exact Lib.nDigits_pos k
  refine ⟨_, _, hs, by rw [hz]; omega, by rw [hz, Nat.add_sub_cancel, he], by rw [hz, Nat.add_sub_cancel, he]; exact readS_txt k (by omega), by simp, ?_⟩
  rw [List.map_map]
  have : ∀ x ∈ l, (strS ∘ fun x => bt (wdL x)) x = id x := fun x hx => wordS hk hx
  rw [List.map_congr_left this, List.map_id]
end Go.Proofs.YtbhnaakknfienaaGreatDoor
namespace Go.Proofs.YtbhnaakknfienaaGreatDoor
open Go.RowKit
set_option linter.unusedVariables false

theorem tt1_small {k : Nat} {l : List StT} (hk : TownOk k l) {x : StT} (h : x ∈ l) : (tt1 x).size ≤ 11 := by
  have hf := fitB_iff.1 (hk.fits x h)
  have h14 := hk.hi
  unfold tt1
  have h1 := txt_le 2 x.1.toNat (by omega) (by omega)
  have h2 := txt_le 2 x.2.1.toNat (by omega) (by omega)
  have h3 := txt_le 4 x.2.2.toNat (by omega) (by omega)
  simp only [ByteArray.size_append, size_lit]
  omega
theorem ttN_small {k : Nat} {l : List StT} (hk : TownOk k l) : ∀ j, (ttN k l j).size ≤ 3 + 11 * j
  | 0 => by
    have h1 := txt_le 2 k (by omega) (by have := hk.hi; omega)
    rw [ttN, ByteArray.size_append, size_lit]
    omega
  | j + 1 => by
    have ih := ttN_small hk j
    cases hx : l[j]? with
    | none => simp only [ttN, hx]; omega
    | some x =>
      rw [ttN_succ hx, ByteArray.size_append]
      have := tt1_small hk (List.mem_of_getElem? hx)
      omega
/-- What the program hands back. -/
def ptI (s : ByteArray) : Option (Int × List StT) :=
  if (rnOk (cutA s 58) && (wordsI s).all okI) && townB (rnV (cutA s 58)) ((wordsI s).map strI) && decide (ttN (rnV (cutA s 58)).toNat ((wordsI s).map strI) ((wordsI s).map strI).length = s) then some (rnV (cutA s 58), (wordsI s).map strI) else none
/-- The first word without its last byte. -/
def headS (w : ByteArray) : ByteArray := w.extract 0 (w.size - 1)
def ptNd (s : ByteArray) : Int := readS (headS ((splitS s 32).headD ByteArray.empty))
def ptL (s : ByteArray) : List StT := (splitS s 32).tail.map strS
/-- What the reference hands back. -/
def ptS (s : ByteArray) : Option (Int × List StT) :=
  if decide (s.size ≤ 600) && decide ((splitS s 32).length ≤ 41) && decide (2 ≤ ((splitS s 32).headD ByteArray.empty).size) && townB (ptNd s) (ptL s) && decide (ttN (ptNd s).toNat (ptL s) (ptL s).length = s) then some (ptNd s, ptL s) else none
theorem ptI_some {s : ByteArray} {nd : Int} {l : List StT} (h : ptI s = some (nd, l)) : townB nd l = true ∧ ttN nd.toNat l l.length = s := by
  unfold ptI at h
  split at h
  · rename_i hc
    simp only [Bool.and_eq_true, decide_eq_true_eq] at hc
    injection h with h
    injection h with h1 h2
    subst h1 h2
    exact ⟨hc.1.2, hc.2⟩
  · cases h
theorem ptS_some {s : ByteArray} {nd : Int} {l : List StT} (h : ptS s = some (nd, l)) : townB nd l = true ∧ ttN nd.toNat l l.length = s := by
  unfold ptS at h
  split at h
  · rename_i hc
    simp only [Bool.and_eq_true, decide_eq_true_eq] at hc
    injection h with h
    injection h with h1 h2
    subst h1 h2
    exact ⟨hc.1.2, hc.2⟩
  · cases h
theorem town_back_I {nd : Int} {l : List StT} (hb : townB nd l = true) {s : ByteArray} (h : ttN nd.toNat l l.length = s) : ptI s = some (nd, l) := by
  obtain ⟨k, rfl, hk⟩ := townB_ok hb
  obtain ⟨h1, h2, h3, h4⟩ := readI hk h
  rw [ptI, h1, h2, h3, h4, hb, decide_eq_true h]
  rfl
theorem town_back_S {nd : Int} {l : List StT} (hb : townB nd l = true) {s : ByteArray} (h : ttN nd.toNat l l.length = s) : ptS s = some (nd, l) := by
  obtain ⟨k, rfl, hk⟩ := townB_ok hb
  obtain ⟨w0, ws, h1, h2, h3, h4, h5, h6⟩ := readT hk h
  have hn : ptNd s = k := by rw [ptNd, h1]; exact h4
  have hl : ptL s = l := by rw [ptL, h1]; exact h6
  have hz : s.size ≤ 600 := by
    rw [← h]
    have := ttN_small hk l.length
    have := hk.len
    show (ttN k l l.length).size ≤ 600
    omega
  have hw : (splitS s 32).length ≤ 41 := by
    rw [h1, List.length_cons, h5]
    have := hk.len
    omega
  have h2' : 2 ≤ ((splitS s 32).headD ByteArray.empty).size := by rw [h1]; exact h2
  rw [ptS, hn, hl, hb, decide_eq_true h, decide_eq_true hz, decide_eq_true hw, decide_eq_true h2']
  rfl
/-- Both ways agree. -/
theorem pt_same (s : ByteArray) : ptI s = ptS s := by
  cases h : ptI s with
  | some l => exact (town_back_S (ptI_some (nd := l.1) (l := l.2) h).1 (ptI_some (nd := l.1) (l := l.2) h).2).symm
  | none =>
    cases h2 : ptS s with
    | none => rfl
    | some l => rw [town_back_I (ptS_some (nd := l.1) (l := l.2) h2).1 (ptS_some (nd := l.1) (l := l.2) h2).2] at h; cases h
end Go.Proofs.YtbhnaakknfienaaGreatDoor
