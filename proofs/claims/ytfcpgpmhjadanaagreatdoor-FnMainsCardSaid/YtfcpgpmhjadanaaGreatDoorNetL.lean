/- Nets' ways and loads: the plain law. -/
import Derived.Test.YtfcpgpmhjadanaaGreatDoorNetM
namespace Go.Proofs.YtfcpgpmhjadanaaGreatDoor
open Go.RowKit
set_option linter.unusedVariables false
def par (M : List (Int × Int)) (m : Nat) : Int := match M[m]? with
  | some x => x.1
  | none => -1
theorem par_some {M : List (Int × Int)} {m : Nat} {x : Int × Int} (h : M[m]? = some x) : par M m = x.1 := by simp [par, h]
def wayF (M : List (Int × Int)) : Nat → Int → List Nat
  | 0, _ => []
  | f + 1, m => if m < 0 then [] else m.toNat :: wayF M f (par M m.toNat)
/-- The mains from m up to the root. -/
def wayL (M : List (Int × Int)) (m : Int) : List Nat := wayF M (m + 1).toNat m
theorem NetOk.par_lt {M H : List (Int × Int)} (hk : NetOk M H) {k : Nat} (h : k < M.length) : -1 ≤ par M k ∧ par M k < k := by
  obtain ⟨h1, h2, _⟩ := hk.main k _ (List.getElem?_eq_getElem h)
  rw [par_some (List.getElem?_eq_getElem h)]
  by_cases h0 : k = 0
  · have := h1 h0; omega
  · have := h2 (by omega); omega
theorem wayF_neg (M : List (Int × Int)) (f : Nat) (m : Int) (h : m < 0) : wayF M f m = [] := by
  cases f with
  | zero => rfl
  | succ f => simp [wayF, h]
theorem wayF_any {M H : List (Int × Int)} (hk : NetOk M H) : ∀ (f g : Nat) (m : Int), (m + 1).toNat ≤ f → (m + 1).toNat ≤ g → m < M.length → wayF M f m = wayF M g m
  | 0, g, m, h1, _, _ => by rw [wayF_neg M g m (by omega)]; rfl
  | f + 1, 0, m, _, h2, _ => by rw [wayF_neg M (f + 1) m (by omega)]; rfl
  | f + 1, g + 1, m, h1, h2, h3 => by
    by_cases h : m < 0
    · simp [wayF, h]
    · have hp := hk.par_lt (k := m.toNat) (by omega)
      simp only [wayF, if_neg h]
      rw [wayF_any hk f g _ (by omega) (by omega) (by omega)]
theorem wayL_neg (M : List (Int × Int)) (m : Int) (h : m < 0) : wayL M m = [] := wayF_neg M _ m h
theorem wayL_step {M H : List (Int × Int)} (hk : NetOk M H) {k : Nat} (h : k < M.length) : wayL M k = k :: wayL M (par M k) := by
  have hp := hk.par_lt h
  have : ((k : Int) + 1).toNat = k + 1 := by omega
  rw [wayL, this, wayF, if_neg (by omega), Int.toNat_natCast, wayL]
  rw [wayF_any hk k (par M k + 1).toNat _ (by omega) (by omega) (by omega)]
theorem wayF_length (M : List (Int × Int)) : ∀ (f : Nat) (m : Int), (wayF M f m).length ≤ f
  | 0, _ => by simp [wayF]
  | f + 1, m => by
    rw [wayF]
    split
    · simp
    · simpa using wayF_length M f _
theorem wayL_length (M : List (Int × Int)) (m : Int) : (wayL M m).length ≤ (m + 1).toNat := wayF_length M _ m
theorem wayF_mem {M H : List (Int × Int)} (hk : NetOk M H) : ∀ (f : Nat) (m : Int), m < M.length → ∀ x ∈ wayF M f m, x < M.length
  | 0, _, _, x, hx => by simp [wayF] at hx
  | f + 1, m, h, x, hx => by
    rw [wayF] at hx
    split at hx
    · simp at hx
    · rcases List.mem_cons.1 hx with rfl | hx
      · omega
      · have hp := hk.par_lt (k := m.toNat) (by omega)
        exact wayF_mem hk f _ (by omega) x hx
theorem wayL_mem {M H : List (Int × Int)} (hk : NetOk M H) {m : Int} (h : m < M.length) {x : Nat} (hx : x ∈ wayL M m) : x < M.length := wayF_mem hk _ m h x hx
theorem par_neg {M H : List (Int × Int)} (hk : NetOk M H) {k : Nat} (h : k < M.length) : -1 ≤ par M k := (hk.par_lt h).1

def upd (d : Nat → Int) (i : Nat) (x : Int) : Nat → Int := fun j => if j = i then x else d j
/-- f added at each place of ms. -/
def addAll (d : Nat → Int) (f : Int) (ms : List Nat) : Nat → Int := ms.foldl (fun d m => upd d m (d m + f)) d
theorem addAll_nil (o : Nat → Int) (f : Int) : addAll o f [] = o := rfl
theorem addAll_snoc (o : Nat → Int) (f : Int) (ms : List Nat) (m : Nat) : addAll o f (ms ++ [m]) = upd (addAll o f ms) m (addAll o f ms m + f) := by simp [addAll]
theorem addAll_cons (o : Nat → Int) (f : Int) (ms : List Nat) (m : Nat) : addAll o f (m :: ms) = addAll (upd o m (o m + f)) f ms := rfl
def Bd (o : Nat → Int) (b : Int) : Prop := ∀ i, 0 ≤ o i ∧ o i ≤ b
theorem Bd.le {o : Nat → Int} {b b' : Int} (h : Bd o b) (hb : b ≤ b') : Bd o b' := fun x => by have := h x; omega
theorem Bd.upd {o : Nat → Int} {b : Int} (h : Bd o b) {f : Int} (h0 : 0 ≤ f) (h1 : f ≤ 5000) (m : Nat) : Bd (upd o m (o m + f)) (b + 5000) := by
  intro x
  unfold Proofs.YtfcpgpmhjadanaaGreatDoor.upd
  have := h x
  have := h m
  split <;> omega
theorem Bd.addAll {f : Int} (h0 : 0 ≤ f) (h1 : f ≤ 5000) : ∀ (ms : List Nat) {o : Nat → Int} {b : Int}, Bd o b → Bd (addAll o f ms) (b + 5000 * ms.length)
  | [], o, b, h => by simpa [Proofs.YtfcpgpmhjadanaaGreatDoor.addAll] using h
  | m :: ms, o, b, h => by
    have := Bd.addAll h0 h1 ms (h.upd h0 h1 m)
    rw [addAll_cons]
    refine this.le ?_
    simp only [List.length_cons]
    omega
/-- The loads of the first k flows. -/
def loadsN (M H : List (Int × Int)) (F : List Int) : Nat → Nat → Int
  | 0 => fun _ => 0
  | k + 1 => match H[k]?, F[k]? with
    | some h, some f => addAll (loadsN M H F k) f (wayL M h.1)
    | _, _ => loadsN M H F k
def loadsF (M H : List (Int × Int)) (F : List Int) : Nat → Int := loadsN M H F F.length
theorem loadsN_succ {M H : List (Int × Int)} {F : List Int} {k : Nat} {h : Int × Int} {f : Int} (hh : H[k]? = some h) (hf : F[k]? = some f) : loadsN M H F (k + 1) = addAll (loadsN M H F k) f (wayL M h.1) := by simp [loadsN, hh, hf]
/-- Flows that are possible each alone. -/
def flowStep (H : List (Int × Int)) (F : List Int) (i : Nat) : Bool := match H[i]?, F[i]? with
  | some h, some f => inB f 0 h.2
  | _, _ => false
def flowsB (H : List (Int × Int)) (F : List Int) : Bool := decide (F.length = H.length) && (List.range F.length).all (flowStep H F)
theorem flowsB_get {H : List (Int × Int)} {F : List Int} (h : flowsB H F = true) : F.length = H.length ∧ ∀ (i : Nat) (h : Int × Int) (f : Int), H[i]? = some h → F[i]? = some f → 0 ≤ f ∧ f ≤ h.2 := by
  rw [flowsB, Bool.and_eq_true, decide_eq_true_eq, List.all_eq_true] at h
  refine ⟨h.1, fun i x f hx hf => ?_⟩
  have := h.2 i (List.mem_range.2 (List.getElem?_eq_some_iff.1 hf).1)
  rw [flowStep, hx, hf, inB_iff] at this
  exact this
theorem loadsN_bd {M H : List (Int × Int)} {F : List Int} (hk : NetOk M H) (hF : ∀ (i : Nat) (h : Int × Int) (f : Int), H[i]? = some h → F[i]? = some f → 0 ≤ f ∧ f ≤ 5000) : ∀ k : Nat, Bd (loadsN M H F k) (50000 * k)
  | 0 => fun x => by
    rw [loadsN]
    simp
  | k + 1 => by
    have ih := loadsN_bd hk hF k
    rw [loadsN]
    split
    · next h f hh hf =>
      obtain ⟨f0, f1⟩ := hF k h f hh hf
      have hl := wayL_length M h.1
      obtain ⟨_, h1, _⟩ := hk.hyd k h hh
      have := hk.m10
      refine (Bd.addAll f0 f1 _ ih).le ?_
      omega
    · exact ih.le (by omega)
theorem flowsB_5000 {M H : List (Int × Int)} {F : List Int} (hk : NetOk M H) (h : flowsB H F = true) : ∀ (i : Nat) (x : Int × Int) (f : Int), H[i]? = some x → F[i]? = some f → 0 ≤ f ∧ f ≤ 5000 := fun i x f hx hf => by
  have h1 := (flowsB_get h).2 i x f hx hf
  have h2 := hk.hyd i x hx
  omega
/-- The mains whose load and limit have a property. -/
def withN (p : Int → Int → Bool) (M : List (Int × Int)) (L : Nat → Int) : Nat → List Int
  | 0 => []
  | k + 1 => match M[k]? with
    | some m => if p (L k) m.2 then withN p M L k ++ [(k : Int)] else withN p M L k
    | none => withN p M L k
theorem withN_succ {p : Int → Int → Bool} {M : List (Int × Int)} {L : Nat → Int} {k : Nat} {m : Int × Int} (hm : M[k]? = some m) : withN p M L (k + 1) = if p (L k) m.2 then withN p M L k ++ [(k : Int)] else withN p M L k := by simp [withN, hm]
theorem withN_length (p : Int → Int → Bool) (M : List (Int × Int)) (L : Nat → Int) : ∀ k, (withN p M L k).length ≤ k
  | 0 => by simp [withN]
  | k + 1 => by
    have := withN_length p M L k
    rw [withN]
    split
    · split
      · simp; omega
      · omega
    · omega
theorem flowsB_len {H : List (Int × Int)} {F : List Int} (h : decide (F.length = H.length) = false) : flowsB H F = false := by rw [flowsB, h]; rfl
theorem flowsB_bad {H : List (Int × Int)} {F : List Int} {i : Nat} (hi : i < F.length) (h : flowStep H F i = false) : flowsB H F = false := by
  cases hc : flowsB H F with
  | false => rfl
  | true =>
    rw [flowsB, Bool.and_eq_true, List.all_eq_true] at hc
    rw [hc.2 i (List.mem_range.2 hi)] at h
    cases h
theorem flowsB_of {H : List (Int × Int)} {F : List Int} (hl : F.length = H.length) (h : ∀ i, i < F.length → flowStep H F i = true) : flowsB H F = true := by
  rw [flowsB, Bool.and_eq_true, List.all_eq_true]
  exact ⟨by simpa using hl, fun i hi => h i (List.mem_range.1 hi)⟩
theorem flowStep_some {H : List (Int × Int)} {F : List Int} {i : Nat} {h : Int × Int} {f : Int} (hh : H[i]? = some h) (hf : F[i]? = some f) : flowStep H F i = inB f 0 h.2 := by simp [flowStep, hh, hf]
theorem flowStep_none {H : List (Int × Int)} {F : List Int} {i : Nat} (hh : H.length ≤ i) : flowStep H F i = false := by simp [flowStep, List.getElem?_eq_none hh]
end Go.Proofs.YtfcpgpmhjadanaaGreatDoor
