/- TreeHoles: what holds at the heads of its last loops. No conditions. -/
import Derived.Test.YtccfimgpbmkpiaaHoleRel
namespace Go.Proofs.Ytccfimgpbmkpiaa
set_option linter.unusedVariables false
set_option linter.unusedSimpArgs false
set_option maxRecDepth 100000
open Go.RowKit Go.MapKept

/-- What is wanted, the first k places of it. -/
def wantP (is : List Bool) (cs : List UInt8) (S k : Nat) : List UInt8 := (List.range S).map fun j => if j < k ∧ is.getD j false = true then cs.getD j 0 else 0
theorem wantP_zero (is : List Bool) (cs : List UInt8) (S : Nat) : bytesA (wantP is cs S 0) = (List.replicate S (Value.int .u8 0)).toArray := by
  unfold bytesA bvals wantP
  congr 1
  apply List.ext_getElem?
  intro i
  rw [List.map_map, List.getElem?_map, List.getElem?_replicate]
  by_cases h : i < S
  · rw [List.getElem?_range h, if_pos h]
    simp
  · rw [List.getElem?_eq_none (by simp; omega), if_neg h]
    rfl
theorem wantP_all (is : List Bool) (cs : List UInt8) (S : Nat) : wantP is cs S S = wantL is cs S := by
  unfold wantP wantL
  refine List.map_congr_left fun j hj => ?_
  have := List.mem_range.1 hj
  simp [this]
theorem wantP_no {is : List Bool} {cs : List UInt8} {S k : Nat} (h : is[k]? = some false) : wantP is cs S (k + 1) = wantP is cs S k := by
  unfold wantP
  refine List.map_congr_left fun j hj => ?_
  by_cases e : j = k
  · subst e
    simp [h]
  · have : (j < k + 1) ↔ (j < k) := by omega
    simp only [this]
theorem wantP_yes {is : List Bool} {cs : List UInt8} {S k : Nat} (h : is[k]? = some true) (hk : k < S) {c : UInt8} (hc : cs[k]? = some c) : wantP is cs S (k + 1) = (wantP is cs S k).set k c := by
  unfold wantP
  apply List.ext_getElem?
  intro j
  rw [List.getElem?_set, List.getElem?_map, List.getElem?_map]
  by_cases hj : j < S
  · rw [List.getElem?_range hj]
    by_cases e : k = j
    · subst e
      have h1 : is.getD k false = true := by rw [List.getD, h]; rfl
      have h2 : cs.getD k 0 = c := by rw [List.getD, hc]; rfl
      rw [if_pos rfl, if_pos (by simp; exact hk)]
      simp [h, hc]
    · have : (j < k + 1) ↔ (j < k) := by omega
      rw [if_neg e]
      simp only [Option.map_some, this]
  · rw [List.getElem?_eq_none (by simp; omega)]
    by_cases e : k = j
    · omega
    · rw [if_neg e]
      rfl

/-- A piece of a row of pieces. -/
theorem piece_at {w : World} {A : Option Addr} {n c : Nat} {ps : List CP} (h : PcsAt w A n c ps) {k : Nat} (hk : k < n) : ∃ g o p, A = some ⟨g, o, none⟩ ∧ ps[k]? = some p ∧ g < w.heap.size ∧ w.cell? ⟨g, o + k * 2, none⟩ = some (.int .i64 p.at_) ∧ w.cell? ⟨g, o + k * 2 + 1, none⟩ = some (.slice p.ad p.len p.cap) := h.at_ hk
theorem pieces_marks {ps : List CP} {is : List Bool} {cs : List UInt8} (hm : Marks (flat (cont ps)) is cs) (hcells : ∀ x ∈ flat (cont ps), 0 ≤ x.1 ∧ x.1 < 1100) {k : Nat} {p : CP} (hp : ps[k]? = some p) {j : Nat} (hj : j < p.bs.length) :
    0 ≤ p.at_ + (j : Int) ∧ p.at_ + (j : Int) < 1100 ∧ is[(p.at_ + (j : Int)).toNat]? = some true ∧ cs[(p.at_ + (j : Int)).toNat]? = some p.bs[j] := by
  have hmem : (p.at_ + (j : Int), p.bs[j]) ∈ flat (cont ps) := by
    refine List.mem_flatMap.2 ⟨(p.at_, p.bs), List.mem_map.2 ⟨p, List.mem_of_getElem? hp, rfl⟩, (cellsFrom_mem _ _ _ _).2 ⟨by omega, ?_⟩⟩
    rw [show (p.at_ + (j : Int) - p.at_).toNat = j by omega]
    exact List.getElem?_eq_getElem hj
  have hb := hcells _ hmem
  dsimp only at hb
  have e : ((p.at_ + (j : Int)).toNat : Int) = p.at_ + (j : Int) := by omega
  refine ⟨hb.1, hb.2, ?_, ?_⟩
  · rw [hm.is_ _ (by omega), e]
    exact congrArg some (hasF_true.2 ⟨_, hmem⟩)
  · exact hm.cs_ _ _ (by rw [e]; exact hmem) (by omega)
theorem pieces_apart {ps : List CP} (hl : ∀ p ∈ ps, p.bs.length = p.len) (hs : Sep (cont ps)) {k : Nat} {p q : CP} (hp : ps[k]? = some p) (hq : ps[k + 1]? = some q) : p.at_ + (p.len : Int) < q.at_ := by
  obtain ⟨h1, rfl⟩ := List.getElem?_eq_some_iff.1 hp
  obtain ⟨h2, rfl⟩ := List.getElem?_eq_some_iff.1 hq
  have := List.pairwise_iff_getElem.1 hs.apart k (k + 1) (by simpa [cont] using h1) (by simpa [cont] using h2) (by omega)
  simp only [cont, List.getElem_map] at this
  rw [hl _ (List.getElem_mem h1)] at this
  exact this
end Go.Proofs.Ytccfimgpbmkpiaa
