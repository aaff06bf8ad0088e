/- Several texts in one. The frame of a law's row, once for all laws: a call that returns true and turns nothing that was there proves the row; no condition. The frame of a law's row that lists package-level variables, where the proof leans on the world's shape besides: a call that returns true and turns nothing that was there proves the row. What a law's row lists gives what the program's reading of texts leans on. What a law's row lists gives what the program's reading of words leans on. What a law is handed, opened: structs of integers and texts by value, and slices of them. Two closed facts of the program that every law's frame wants. -/
import Derived.Test.YtbhnaakknfienaaGreatDoorPrA
import Derived.Test.YtbhnaakknfienaaGreatDoorRows
import Derived.Test.YtbhnaakknfienaaGreatDoorMem
import Derived.SizedLaws
import Derived.Carry
import Derived.ProofKit
import Derived.OpenShut
import Derived.Deep.Fields
import Derived.Deep.Slices
import Derived.ChangeSame
import Derived.ChangeOld
import Derived.KernelRfl
import Derived.LaidLaws
import Derived.Lay
import Derived.LaidMore
import Derived.ChangeVars
import Derived.JoinedOf
import Derived.JoinedAt
import Derived.SevenTiedAt
import Derived.Lib.LaidTab
import Derived.Stop.LaidErr
import Derived.Stop.ErrReads
import Derived.Shelf.Vars
import Derived.Lib.LaidU8
import Derived.ChangeArms
import Derived.Lib.SmallJoins
namespace Go.Proofs.YtbhnaakknfienaaGreatDoor
open Go.ChangeShapes Go.WideShapes Go.RowKit

section
variable {H : Type} {enc : TypeId × Value → H} {P : Program}

theorem trodAll_length : ∀ {ts : List TypeId} {w : World} {b : Nat} {sp : Nat → Bool} {hd : Bool} {vs : List Value} {ds : List (DataW H)} {ps : List MemPlace},
    DataW.TrodAll enc P w b sp hd ts vs ds ps → vs.length = ts.length ∧ ds.length = ts.length
  | [], w, b, sp, hd, vs, ds, ps, h => by
    obtain ⟨rfl, rfl, _⟩ := trodAll_nil h
    exact ⟨rfl, rfl⟩
  | t :: ts, w, b, sp, hd, vs, ds, ps, h => by
    obtain ⟨v, vs', d, ds', p, q, rfl, rfl, rfl, _, r⟩ := trodAll_cons h
    obtain ⟨h1, h2⟩ := trodAll_length r
    exact ⟨by simp [h1], by simp [h2]⟩

theorem below_trodAll (hl : laidOutB P = true) {W W' : World} (hb : Below W.heap.size W W') : ∀ {ts : List TypeId} {vs : List Value} {ds : List (DataW H)} {ps : List MemPlace},
    ts.all (fun t => P.readableRec t && decide (t < P.types.size)) = true →
    DataW.TrodAll enc P W 0 (fun _ => true) true ts vs ds ps → (∀ x ∈ ps, x.block < W.heap.size) →
    DataW.TrodAll enc P W' 0 (fun b => decide (b < W.heap.size)) true ts vs ds ps
  | [], vs, ds, ps, _, h, _ => by
    obtain ⟨rfl, rfl, rfl⟩ := trodAll_nil h
    exact trodAll_mk0
  | t :: ts, vs, ds, ps, ht, h, hlt => by
    obtain ⟨v, vs', d, ds', p, q, rfl, rfl, rfl, h0, r⟩ := trodAll_cons h
    simp only [List.all_cons, Bool.and_eq_true, decide_eq_true_eq] at ht
    obtain ⟨⟨ht1, ht2⟩, ht3⟩ := ht
    exact trodAll_cons_mk (Below.trod hl ht1 ht2 h0 hb (fun x hx => hlt x (List.mem_append_left _ hx)))
      (below_trodAll hl hb ht3 r (fun x hx => hlt x (List.mem_append_right _ hx)))

/-- Every argument's reading and form, and the reach of all of them: what a law's walk starts with. -/
theorem law_lift {C : Checked} {os : Os} (own : ownKnob C.prog.godebug = none) (started : os.Started) {s : ChangeSpec} {f : FuncId} {fn : Func} {tb : TypeId}
    (hvars : s.vars = []) (noInit : C.prog.inits.idxOf? f = none) (hfn : C.prog.funcs[f]? = some fn) (hres : fn.resultTypes = #[tb]) (hb : C.prog.underlying tb = some .bool)
    (hl : laidOutB C.prog = true) (hts : fn.params.toList.all (fun t => C.prog.readableRec t && decide (t < C.prog.types.size)) = true)
    (hs : ∀ ds : List (DataW H), ds.length = fn.params.toList.length → s.fn H ds = { results := [.lit (.bool true)], args := ds })
    (witness : ∃ (w : World) (tape : Tape) (i : Input), w.os = os ∧ (w.forCall tape i).Shaped C.prog ∧ i.vars = [] ∧ Input.okWide C.prog (w.forCall tape i) .any w.heap.size f i ∧
      s.pre6 enc C.prog fn [] false (w.forCall tape i).memory i.args ∧ Assume.holds {} C.prog (lone (Frame.enter C.prog f i.args .normal) [] (w.forCall tape i)))
    (walk : ∀ (W : World) (base : Nat) (args : Array Value) (ds : List (DataW H)) (p : List MemPlace),
      (∀ (j : Nat) t v, fn.params[j]? = some t → args[j]? = some v → Value.okWide C.prog W .any base t v) →
      DataW.TrodAll enc C.prog W 0 (fun _ => true) true fn.params.toList args.toList ds p →
      (DataW.weightsEach C.prog fn.params.toList ds).all (· ≤ reachBytes) = true →
      Calls C.prog f args W fun e W' => e = .returned (.bool true) ∧ Below W.heap.size W W') :
    ReturnsInHanded {} C os f .any (s.pre6 enc C.prog fn [] false) (s.post enc C.prog fn false true false false) := by
  refine returnsInHanded_of_change_sized own started noInit hfn witness ?_
  intro W base args ds gs before hval hW _ hz _
  have hW' := hW
  obtain ⟨p, q, hA, hV, rfl, hfz, hnd⟩ := hW
  have hvt : s.plain.varTypes C.prog = [] := by simp [DataSpec.varTypes, ChangeSpec.plain, hvars]
  rw [hvt] at hz
  rw [hvars] at hV
  obtain ⟨rfl, rfl⟩ := trodVars_none hV
  simp only [List.append_nil] at hz
  obtain ⟨_, hdl⟩ := trodAll_length hA
  refine (walk W base args ds p hval hA hz).mono fun e W' ⟨he, bel⟩ => ⟨_, he, ds, [], p ++ [], [], p, [], hW', ?_, ?_, ?_, bel.frame _, fun h => by cases h⟩
  · rw [List.append_nil, hs ds hdl, hres]
    exact trodAll_mk1 (shut_bool hb _)
  · rw [List.append_nil, hs ds hdl]
    refine below_trodAll hl bel hts hA (fun x hx => hW'.lt x ?_)
    simpa using hx
  · rw [List.append_nil, hs ds hdl, hvars]
    rfl
end
end Go.Proofs.YtbhnaakknfienaaGreatDoor
namespace Go.Proofs.YtbhnaakknfienaaGreatDoor
open Go.ChangeShapes Go.WideShapes Go.ChangeAt Go.RowKit

theorem law_lift_shaped {H : Type} {enc : TypeId × Value → H} {C : Checked} {os : Os} {laid : List (String × DataW Unit)} (own : ownKnob C.prog.godebug = none) (started : os.Started) {s : ChangeSpec} {f : FuncId} {fn : Func} {tb : TypeId}
    (hvars : s.vars = []) (noInit : C.prog.inits.idxOf? f = none) (hfn : C.prog.funcs[f]? = some fn) (hres : fn.resultTypes = #[tb]) (hb : C.prog.underlying tb = some .bool)
    (hl : laidOutB C.prog = true) (hts : fn.params.toList.all (fun t => C.prog.readableRec t && decide (t < C.prog.types.size)) = true)
    (hs : ∀ ds : List (DataW H), ds.length = fn.params.toList.length → s.fn H ds = { results := [.lit (.bool true)], args := ds })
    (witness : ∃ (w : World) (tape : Tape) (i : Input), w.os = os ∧ (w.forCall tape i).Shaped C.prog ∧ i.vars = [] ∧ Input.okWide C.prog (w.forCall tape i) .any w.heap.size f i ∧
      ((s.pre enc C.prog fn [] false (w.forCall tape i).memory i.args ∧ laidMetH C.prog laid (w.forCall tape i).memory) ∧ sizedMet enc C.prog fn (OpenSpec.ofChange s) false (w.forCall tape i).memory i.args) ∧ Assume.holds {} C.prog (lone (Frame.enter C.prog f i.args .normal) [] (w.forCall tape i)))
    (walk : ∀ (W : World) (base : Nat) (args : Array Value) (ds : List (DataW H)) (p : List MemPlace),
      (∀ (j : Nat) t v, fn.params[j]? = some t → args[j]? = some v → Value.okWide C.prog W .any base t v) →
      DataW.TrodAll enc C.prog W 0 (fun _ => true) true fn.params.toList args.toList ds p →
      (DataW.weightsEach C.prog fn.params.toList ds).all (· ≤ reachBytes) = true → laidMetH C.prog laid W → W.ShapedOpen C.prog →
      Calls C.prog f args W fun e W' => e = .returned (.bool true) ∧ Below W.heap.size W W') :
    ReturnsInHanded {} C os f .any (fun w args => (s.pre enc C.prog fn [] false w args ∧ laidMetH C.prog laid w) ∧ sizedMet enc C.prog fn (OpenSpec.ofChange s) false w args) (s.post enc C.prog fn false true false false) := by
  refine returnsInHanded_of_calls own started noInit witness ?_
  intro w tape i _ hsh _ hok hpre _
  obtain ⟨_, _, _, fn', hfn', _, _, _, _, hval⟩ := hok
  have e : fn' = fn := Option.some.inj (hfn'.symm.trans hfn)
  subst e
  obtain ⟨⟨⟨ds, gs, before, hW, hc⟩, hL⟩, hz⟩ := hpre
  replace hz : (DataW.weightsEach C.prog (fn'.params.toList ++ s.plain.varTypes C.prog) (ds ++ gs)).all (· ≤ reachBytes) = true := hz.weights hW
  replace hW := DataW.Whole.of_heap (w' := w.forCall tape i) (by rfl) hW
  replace hL : laidMetH C.prog laid (w.forCall tape i) := hL.of_heap (by rfl)
  generalize w.forCall tape i = W at *
  generalize i.args = args at *
  have hW' := hW
  obtain ⟨p, q, hA, hV, rfl, hfz, hnd⟩ := hW
  have hvt : s.plain.varTypes C.prog = [] := by simp [DataSpec.varTypes, ChangeSpec.plain, hvars]
  rw [hvt] at hz
  rw [hvars] at hV
  obtain ⟨rfl, rfl⟩ := trodVars_none hV
  simp only [List.append_nil] at hz
  obtain ⟨_, hdl⟩ := trodAll_length hA
  refine (walk W w.heap.size args ds p hval hA hz hL hsh).mono fun e W' ⟨he, bel⟩ => ?_
  subst he
  refine ChangeSpec.post_blind ?_
  refine ⟨ds, [], p ++ [], [], p, [], hW', ?_, ?_, ?_, bel.frame _, fun h => by cases h⟩
  · rw [List.append_nil, hs ds hdl, hres]
    exact trodAll_mk1 (shut_bool hb _)
  · rw [List.append_nil, hs ds hdl]
    refine below_trodAll hl bel hts hA (fun x hx => hW'.lt x ?_)
    simpa using hx
  · rw [List.append_nil, hs ds hdl, hvars]
    rfl
end Go.Proofs.YtbhnaakknfienaaGreatDoor
namespace Go.Proofs.YtbhnaakknfienaaGreatDoor
open Go.ChangeShapes Go.WideShapes Go.ChangeAt Go.RowKit
set_option linter.unusedVariables false

theorem tab_head {r : List (String × DataW Unit)} {W : World} (h : laidMet Tryz.prog (("internal/strconv.uint64pow10", Rows.laid_internal_strconv_uint64pow10) :: r) W) : Tab W :=
  Lib.tabIs_of_head (g := 3) (by kernel_rfl) (t := 155) (by kernel_rfl) (e := 55) (n := 20) (by kernel_rfl) (by kernel_rfl) (by kernel_rfl) (by kernel_rfl) (show laidMet Tryz.prog (("internal/strconv.uint64pow10", Lib.tabData .u64 Lib.pow10Tab) :: r) W from h)
theorem err_row (u : TypeId) (h : Tryz.prog.typeName? 3 u = some "*errors.errorString") : u = 171 :=
  typeName_ptr_named (nm := "errors.errorString") (by rw [show "*" ++ "errors.errorString" = "*errors.errorString" from by decide]; kernel_rfl) (by kernel_rfl) (by decide) u (by rw [show "*" ++ "errors.errorString" = "*errors.errorString" from by decide]; exact h)
theorem err_head {r : List (String × DataW Unit)} {n : String} {text : List UInt8} {g : Nat} {W : World} (hg : Tryz.prog.globalNamed n = some g) (ht : (Tryz.prog.globals[g]?).map (·.type) = some 111) (h : laidMet Tryz.prog ((n, .iface "*errors.errorString" (.ptr (.agg [.lit (.string text)]))) :: r) W) : ∃ t p, W.var? Tryz.prog n = some #[.iface t p] := by
  obtain ⟨a, s, hv, -⟩ := laid_sentinel h hg ht Tryz.underlying111 err_row Tryz.underlying171 Tryz.underlying173 rfl rfl Tryz.underlying9 (by kernel_rfl) (by kernel_rfl)
  exact ⟨_, _, hv⟩
theorem errs_head {r : List (String × DataW Unit)} {W : World} (h : laidMet Tryz.prog (("strconv.ErrRange", Rows.laid_strconv_ErrRange) :: ("strconv.ErrSyntax", Rows.laid_strconv_ErrSyntax) :: r) W) : (∃ t p, W.var? Tryz.prog "strconv.ErrSyntax" = some #[.iface t p]) ∧ ∃ t p, W.var? Tryz.prog "strconv.ErrRange" = some #[.iface t p] :=
  ⟨err_head (g := 4) (by kernel_rfl) (by kernel_rfl) (laidMet.tail h), err_head (g := 5) (by kernel_rfl) (by kernel_rfl) h⟩
theorem max_shaped {W : World} (hs : W.ShapedOpen Tryz.prog) : MaxIs W :=
  cell_of_shapedOpen_int hs (g := 2) (t := 3) (k := .i64) (zero := #[.int .i64 0]) (of_decide_eq_true (by kernel_rfl)) (by kernel_rfl) rfl (by kernel_rfl) (by kernel_rfl) Tryz.underlying3
end Go.Proofs.YtbhnaakknfienaaGreatDoor
namespace Go.Proofs.YtbhnaakknfienaaGreatDoor
open Go.ChangeShapes Go.WideShapes Go.ChangeAt Go.RowKit
set_option linter.unusedVariables false

theorem asc_head {r : List (String × DataW Unit)} {W : World} (h : laidMet Tryz.prog (("strings.asciiSpace", Rows.laid_strings_asciiSpace) :: r) W) : Lib.TabIs Tryz.prog W "strings.asciiSpace" .u8 Lib.asciiSpaceTab :=
  Lib.tabIs_of_head (g := 0) (by kernel_rfl) (t := 114) (by kernel_rfl) (e := 5) (n := 256) (by kernel_rfl) (by kernel_rfl) (by kernel_rfl) (by kernel_rfl) (by
    have e : (Rows.laid_strings_asciiSpace : DataW Unit) = Lib.tabData .u8 Lib.asciiSpaceTab := by kernel_rfl
    rw [← e]; exact h)
theorem wht_head {r : List (String × DataW Unit)} {W : World} (h : laidMet Tryz.prog (("unicode.White_Space", Rows.laid_unicode_White_Space) :: r) W) : Lib.WhiteTab 1 W := by
  have e : (Rows.laid_unicode_White_Space : DataW Unit) = Lib.whiteData := by kernel_rfl
  rw [e] at h
  exact whiteTab_of_reads Tryz.lays199 ⟨by kernel_rfl, by kernel_rfl, by kernel_rfl, by kernel_rfl, by kernel_rfl, by kernel_rfl, by kernel_rfl, by kernel_rfl⟩ (Lib.laidMet.reads h (List.mem_cons_self ..))
theorem env_c {W : World} (h : laidMetH Tryz.prog [("math/bits.deBruijn32tab", Rows.laid_math_bits_deBruijn32tab), ("math/bits.deBruijn64tab", Rows.laid_math_bits_deBruijn64tab), ("internal/strconv.uint64pow10", Rows.laid_internal_strconv_uint64pow10), ("strconv.ErrRange", Rows.laid_strconv_ErrRange), ("strconv.ErrSyntax", Rows.laid_strconv_ErrSyntax), ("unicode.White_Space", Rows.laid_unicode_White_Space), ("strings.asciiSpace", Rows.laid_strings_asciiSpace)] W) (hs : W.ShapedOpen Tryz.prog) : WrdEnv W := by
  rw [MakeChecks.laidMetH_plain _ _ _ (by kernel_rfl)] at h
  have h3 := errs_head (laidMet.tail (laidMet.tail (laidMet.tail h)))
  exact ⟨⟨⟨tab_head (laidMet.tail (laidMet.tail h)), h3.1, h3.2⟩, max_shaped hs⟩, asc_head (laidMet.tail (laidMet.tail (laidMet.tail (laidMet.tail (laidMet.tail (laidMet.tail h)))))), wht_head (laidMet.tail (laidMet.tail (laidMet.tail (laidMet.tail (laidMet.tail h)))))⟩
end Go.Proofs.YtbhnaakknfienaaGreatDoor
namespace Go.Proofs.YtbhnaakknfienaaGreatDoor
open Go.ChangeShapes Go.WideShapes Go.RowKit Go.Deep

/-- One cell that holds an integer or a text, as its type says. -/
def Scalar (P : Program) (t : TypeId) (v : Value) : Prop :=
  (P.underlying t = some (.int .i64) ∧ ∃ n, v = .int .i64 n ∧ (Lit.int .i64 n).wf = true) ∨ (P.underlying t = some .string ∧ ∃ s, v = .string s ∧ s.size ≤ maxLen)

def scalarB (P : Program) (t : TypeId) : Bool := match P.underlying t with | some (.int .i64) => true | some .string => true | _ => false

section
variable {H : Type} {enc : TypeId × Value → H} {P : Program} {w : World} {base : Nat} {spare : Nat → Bool} {held : Bool}

theorem scalar_of {t : TypeId} {fuel : Nat} {v : Value} {x : DataW H × List MemPlace} (hs : scalarB P t = true) (h : DataW.trod enc P w base spare held fuel t [v] = some x) : Scalar P t v := by
  unfold scalarB at hs
  split at hs
  · rename_i ht
    obtain ⟨n, e, _, hw⟩ := DataW.trod_int ht h
    simp only [List.cons.injEq, and_true] at e
    exact .inl ⟨ht, n, e, hw⟩
  · rename_i ht
    obtain ⟨s, e, _, hw⟩ := DataW.trod_string ht h
    simp only [List.cons.injEq, and_true] at e
    exact .inr ⟨ht, s, e, hw⟩
  · cases hs

/-- A struct of such fields. -/
theorem open_scalars {t : TypeId} {fs : Array Field} {fuel : Nat} {cs : List Value} {x : DataW H × List MemPlace} (ht : P.underlying t = some (.struct fs)) (hone : oneCellFields P fs = true) (hC : P.cellsOf t = fs.size)
    (hs : fs.toList.all (fun f => scalarB P f.type) = true) (h : DataW.trod enc P w base spare held fuel t cs = some x) :
    cs.length = fs.size ∧ ∀ (i : Nat) (f : Field), fs[i]? = some f → ∃ v, cs[i]? = some v ∧ Scalar P f.type v := by
  obtain ⟨ys, n, _, _, hlen, hyl, hf⟩ := DataW.trod_struct ht h
  rw [hC] at hlen
  refine ⟨hlen, fun i f hi => ?_⟩
  obtain ⟨ho, hk⟩ := hone_of hone i f hi
  have hil : i < fs.size := (Array.getElem?_eq_some_iff.1 hi).1
  have h1 := hf i f hi
  rw [ho, hk] at h1
  have hone' : (cs.drop i).take 1 = [cs[i]'(by omega)] := by
    rw [List.drop_eq_getElem_cons (by omega)]
    rfl
  rw [hone', List.getElem?_eq_getElem (show i < ys.length by omega)] at h1
  refine ⟨_, List.getElem?_eq_getElem (by omega), scalar_of ?_ h1⟩
  refine List.all_eq_true.1 hs f ?_
  rw [Array.mem_toList_iff]
  exact Array.mem_of_getElem? hi

theorem open_struct {r : Reach} {b0 : Nat} {t : TypeId} {fs : Array Field} {v : Value} {d : DataW H} {p : List MemPlace} (ht : P.underlying t = some (.struct fs)) (hone : oneCellFields P fs = true) (hC : P.cellsOf t = fs.size)
    (hs : fs.toList.all (fun f => scalarB P f.type) = true) (hv : Value.okWide P w r b0 t v) (h : DataW.Trod enc P w base spare held t v d p) :
    ∃ cs : List Value, v = .agg cs.toArray ∧ cs.length = fs.size ∧ ∀ (i : Nat) (f : Field), fs[i]? = some f → ∃ v, cs[i]? = some v ∧ Scalar P f.type v := by
  obtain ⟨cs, rfl, hsz⟩ := okWide_struct ht hv
  obtain ⟨fuel, hf⟩ := h
  obtain ⟨h1, h2⟩ := open_scalars ht hone hC hs hf
  exact ⟨cs.toList, rfl, h1, h2⟩

/-- A slice of elements each of whose readings gives a row of cells. -/
theorem open_rows {r : Reach} {b0 : Nat} {t e : TypeId} {v : Value} {d : DataW H} {p : List MemPlace} (n : Nat) (Q : List Value → Prop) (ht : P.underlying t = some (.slice e)) (hC : P.cellsOf e = n)
    (hQ : ∀ (fuel : Nat) (cs : List Value) (x : DataW H × List MemPlace), DataW.trod enc P w base (fun _ => true) held fuel e cs = some x → Q cs)
    (hv : Value.okWide P w r b0 t v) (h : DataW.Trod enc P w base (fun _ => true) held t v d p) :
    ∃ (A : Option Addr) (len cap : Nat) (rows : List (List Value)), v = .slice A len cap ∧ rows.length = len ∧ len ≤ cap ∧ cap ≤ maxLen ∧ (∀ row ∈ rows, row.length = n ∧ Q row) ∧ Rd w A rows.flatten ∧ (A = none → cap = 0) ∧
      (d = .nil ∧ cap = 0 ∨ ∃ elems rest, d = .slice elems rest ∧ elems.length = len ∧ elems.length + rest.length = cap) := by
  obtain ⟨a0, len0, cap0, rfl⟩ := okWide_slice ht hv
  obtain ⟨fuel, hf⟩ := h
  rcases open_slice ht hf with ⟨hcs, hx⟩ | ⟨a, len, cap, m, k, D, Pl, hcs, _, hl, hm, hmm, hx, hi⟩
  · simp [Value.cells] at hcs
    obtain ⟨rfl, rfl, rfl⟩ := hcs
    simp only [Prod.mk.injEq] at hx
    exact ⟨none, 0, 0, [], rfl, rfl, Nat.le_refl _, Nat.zero_le _, by simp, .inl rfl, fun _ => rfl, .inl ⟨hx.1, rfl⟩⟩
  · simp [Value.cells] at hcs
    obtain ⟨rfl, rfl, rfl⟩ := hcs
    simp only [if_true] at hmm
    subst hmm
    rw [hC] at hi
    have hrow : ∀ i, ∃ row : List Value, i < len0 → row.length = n ∧ Q row ∧ ∀ j, j < n → w.cell? (a.add (i * n + j)) = row[j]? := by
      intro i
      by_cases hlt : i < len0
      · obtain ⟨cs', hc, htr⟩ := hi i (by omega)
        obtain ⟨_, hlen, hcell⟩ := World.cells?_some hc
        refine ⟨cs', fun _ => ⟨hlen, hQ _ _ _ htr, fun j hj => ?_⟩⟩
        rw [← Go.Deep.add_add]
        exact hcell j hj
      · exact ⟨[], fun h => absurd h hlt⟩
    have hrows : ∀ k, k ≤ len0 → ∃ rows : List (List Value), rows.length = k ∧ (∀ row ∈ rows, row.length = n ∧ Q row) ∧ ∀ j u, rows.flatten[j]? = some u → w.cell? (a.add j) = some u := by
      intro k
      induction k with
      | zero => exact fun _ => ⟨[], rfl, by simp, by simp⟩
      | succ k ih =>
        intro hk
        obtain ⟨rows, h1, h2, h3⟩ := ih (by omega)
        obtain ⟨row, hr⟩ := hrow k
        obtain ⟨r1, r2, r3⟩ := hr (by omega)
        have hfl : rows.flatten.length = k * n := by
          have : ∀ (l : List (List Value)), (∀ row ∈ l, row.length = n ∧ Q row) → l.flatten.length = l.length * n := by
            intro l
            induction l with
            | nil => simp
            | cons x l ih =>
              intro hh
              rw [List.flatten_cons, List.length_append, ih (fun r hr => hh r (List.mem_cons_of_mem _ hr)), (hh x (List.mem_cons_self ..)).1, List.length_cons, Nat.succ_mul]
              omega
          rw [this rows h2, h1]
        refine ⟨rows ++ [row], by simp [h1], fun x hx => ?_, fun j u hu => ?_⟩
        · rcases List.mem_append.1 hx with hx | hx
          · exact h2 x hx
          · simp at hx; subst hx; exact ⟨r1, r2⟩
        · rw [List.flatten_append] at hu
          by_cases hj : j < rows.flatten.length
          · rw [List.getElem?_append_left hj] at hu
            exact h3 j u hu
          · rw [List.getElem?_append_right (by omega), hfl] at hu
            simp only [List.flatten_cons, List.flatten_nil, List.append_nil] at hu
            have hjn : j - k * n < n := by
              have := (List.getElem?_eq_some_iff.1 hu).1
              omega
            have := r3 (j - k * n) hjn
            rw [show k * n + (j - k * n) = j by omega, hu] at this
            exact this
    obtain ⟨rows, h1, h2, h3⟩ := hrows len0 (Nat.le_refl _)
    refine ⟨some a, len0, _, rows, rfl, h1, hl, hm, h2, ?_, (fun h => by cases h), .inr ⟨_, _, (Prod.mk.inj hx).1, by simp, by simp; omega⟩⟩
    by_cases hz : rows.flatten = []
    · exact .inl hz
    · have hz' : 0 < rows.flatten.length := List.length_pos_iff.2 hz
      obtain ⟨b, off, spot⟩ := a
      have h0 := h3 0 _ (List.getElem?_eq_getElem hz')
      have hspot : spot = none := by simpa [Addr.add] using World.cell?_spot h0
      subst hspot
      refine .inr ⟨b, off, rfl, fun j u hu => ?_⟩
      have := h3 j u hu
      unfold Addr.add at this
      by_cases hj0 : j = 0
      · subst hj0
        simpa using this
      · simpa [hj0] using this
end

/-- Rows that are each some f a are one list's. -/
theorem rows_map {α : Type} (f : α → List Value) : ∀ rows : List (List Value), (∀ r ∈ rows, ∃ a, f a = r) → ∃ l : List α, l.map f = rows
  | [], _ => ⟨[], rfl⟩
  | r :: rows, h => by
    obtain ⟨a, ha⟩ := h r (List.mem_cons_self ..)
    obtain ⟨l, hl⟩ := rows_map f rows (fun x hx => h x (List.mem_cons_of_mem _ hx))
    exact ⟨a :: l, by rw [List.map_cons, ha, hl]⟩
theorem flatten_map {α : Type} (f : α → List Value) (l : List α) : (l.map f).flatten = l.flatMap f := by rw [List.flatMap_def]

theorem Scalar.int {P : Program} {t : TypeId} {v : Value} (h : Scalar P t v) (ht : P.underlying t = some (.int .i64)) : ∃ n, v = .int .i64 n ∧ (Lit.int .i64 n).wf = true := by
  rcases h with ⟨_, h⟩ | ⟨h, _⟩
  · exact h
  · rw [ht] at h; cases h
theorem Scalar.str {P : Program} {t : TypeId} {v : Value} (h : Scalar P t v) (ht : P.underlying t = some .string) : ∃ s, v = .string s ∧ s.size ≤ maxLen := by
  rcases h with ⟨h, _⟩ | ⟨_, h⟩
  · rw [ht] at h; cases h
  · exact h
end Go.Proofs.YtbhnaakknfienaaGreatDoor
namespace Go.Proofs.YtbhnaakknfienaaGreatDoor
theorem law_own : ownKnob Tryz.checked.prog.godebug = none := by kernel_rfl
theorem law_laidOut : laidOutB Tryz.checked.prog = true := by kernel_rfl
theorem flat_ones {α : Type} (f : α → Value) : ∀ l : List α, (l.map (fun x => [f x])).flatten = l.map f
  | [] => rfl
  | x :: l => by rw [List.map_cons, List.flatten_cons, flat_ones f l]; rfl
end Go.Proofs.YtbhnaakknfienaaGreatDoor
