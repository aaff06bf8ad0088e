/- A town's text read: the plain side: both ways agree. -/
import Derived.Test.YtnbiknaihogknaaDoorPxParT
import Derived.Test.YtnbiknaihogknaaDoorPxA
namespace Go.Proofs.YtnbiknaihogknaaDoor
open Go.RowKit
set_option linter.unusedVariables false

theorem tt1_small {k : Nat} {l : List StT} (hk : TownOk k l) {x : StT} (h : x ∈ l) : (tt1 x).size ≤ 11 := by
  have hf := fitB_iff.1 (hk.fits x h)
  have h14 := hk.hi
  unfold tt1
  have h1 := txt_le 2 x.1.toNat (by omega) (by omega)
  have h2 := txt_le 2 x.2.1.toNat (by omega) (by omega)
  have h3 := txt_le 4 x.2.2.toNat (by omega) (by omega)
  simp only [ByteArray.size_append, size_lit]
  omega
theorem ttN_small {k : Nat} {l : List StT} (hk : TownOk k l) : ∀ j, (ttN k l j).size ≤ 3 + 11 * j
  | 0 => by
    have h1 := txt_le 2 k (by omega) (by have := hk.hi; omega)
    rw [ttN, ByteArray.size_append, size_lit]
    omega
  | j + 1 => by
    have ih := ttN_small hk j
    cases hx : l[j]? with
    | none => simp only [ttN, hx]; omega
    | some x =>
      rw [ttN_succ hx, ByteArray.size_append]
      have := tt1_small hk (List.mem_of_getElem? hx)
      omega
/-- What the program hands back. -/
def ptI (s : ByteArray) : Option (Int × List StT) :=
  if (rnOk (cutA s 58) && (wordsI s).all okI) && townB (rnV (cutA s 58)) ((wordsI s).map strI) && decide (ttN (rnV (cutA s 58)).toNat ((wordsI s).map strI) ((wordsI s).map strI).length = s) then some (rnV (cutA s 58), (wordsI s).map strI) else none
/-- The first word without its last byte. -/
def headS (w : ByteArray) : ByteArray := w.extract 0 (w.size - 1)
def ptNd (s : ByteArray) : Int := readS (headS ((splitS s 32).headD ByteArray.empty))
def ptL (s : ByteArray) : List StT := (splitS s 32).tail.map strS
/-- What the reference hands back. -/
def ptS (s : ByteArray) : Option (Int × List StT) :=
  if decide (s.size ≤ 600) && decide ((splitS s 32).length ≤ 41) && decide (2 ≤ ((splitS s 32).headD ByteArray.empty).size) && townB (ptNd s) (ptL s) && decide (ttN (ptNd s).toNat (ptL s) (ptL s).length = s) then some (ptNd s, ptL s) else none
theorem ptI_some {s : ByteArray} {nd : Int} {l : List StT} (h : ptI s = some (nd, l)) : townB nd l = true ∧ ttN nd.toNat l l.length = s := by
  unfold ptI at h
  split at h
  · rename_i hc
    simp only [Bool.and_eq_true, decide_eq_true_eq] at hc
    injection h with h
    injection h with h1 h2
    subst h1 h2
    exact ⟨hc.1.2, hc.2⟩
  · cases h
theorem ptS_some {s : ByteArray} {nd : Int} {l : List StT} (h : ptS s = some (nd, l)) : townB nd l = true ∧ ttN nd.toNat l l.length = s := by
  unfold ptS at h
  split at h
  · rename_i hc
    simp only [Bool.and_eq_true, decide_eq_true_eq] at hc
    injection h with h
    injection h with h1 h2
    subst h1 h2
    exact ⟨hc.1.2, hc.2⟩
  · cases h
theorem town_back_I {nd : Int} {l : List StT} (hb : townB nd l = true) {s : ByteArray} (h : ttN nd.toNat l l.length = s) : ptI s = some (nd, l) := by
  obtain ⟨k, rfl, hk⟩ := townB_ok hb
  obtain ⟨h1, h2, h3, h4⟩ := readI hk h
  rw [ptI, h1, h2, h3, h4, hb, decide_eq_true h]
  rfl
theorem town_back_S {nd : Int} {l : List StT} (hb : townB nd l = true) {s : ByteArray} (h : ttN nd.toNat l l.length = s) : ptS s = some (nd, l) := by
  obtain ⟨k, rfl, hk⟩ := townB_ok hb
  obtain ⟨w0, ws, h1, h2, h3, h4, h5, h6⟩ := readT hk h
  have hn : ptNd s = k := by rw [ptNd, h1]; exact h4
  have hl : ptL s = l := by rw [ptL, h1]; exact h6
  have hz : s.size ≤ 600 := by
    rw [← h]
    have := ttN_small hk l.length
    have := hk.len
    show (ttN k l l.length).size ≤ 600
    omega
  have hw : (splitS s 32).length ≤ 41 := by
    rw [h1, List.length_cons, h5]
    have := hk.len
    omega
  have h2' : 2 ≤ ((splitS s 32).headD ByteArray.empty).size := by rw [h1]; exact h2
  rw [ptS, hn, hl, hb, decide_eq_true h, decide_eq_true hz, decide_eq_true hw, decide_eq_true h2']
  rfl
/-- Both ways agree. -/
theorem pt_same (s : ByteArray) : ptI s = ptS s := by
  cases h : ptI s with
  | some l => exact (town_back_S (ptI_some (nd := l.1) (l := l.2) h).1 (ptI_some (nd := l.1) (l := l.2) h).2).symm
  | none =>
    cases h2 : ptS s with
    | none => rfl
    | some l => rw [town_back_I (ptS_some (nd := l.1) (l := l.2) h2).1 (ptS_some (nd := l.1) (l := l.2) h2).2] at h; cases h
end Go.Proofs.YtnbiknaihogknaaDoor
