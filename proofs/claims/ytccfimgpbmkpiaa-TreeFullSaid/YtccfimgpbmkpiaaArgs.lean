/- A slice of bytes that comes in: what it is in memory. No conditions. -/
import Derived.Test.YtccfimgpbmkpiaaFs
import Derived.ChangeSlices
import Derived.WideShapes
namespace Go.Proofs.Ytccfimgpbmkpiaa
set_option linter.unusedVariables false
set_option linter.unusedSimpArgs false
set_option maxRecDepth 100000
open Go.RowKit Go.MapKept Go.WideShapes Go.ChangeShapes

/-- No part of the type is one that fits. -/
def noFit (p : Program) (fits : TypeId → Bool) : Nat → TypeId → Bool
  | 0, _ => true
  | d + 1, e => !fits e && match p.underlying e with
    | some (.struct fs) => fs.all fun f => noFit p fits d f.type
    | some (.array _ e') => noFit p fits d e'
    | _ => true

theorem rowAt_no {p : Program} {fits : TypeId → Bool} : ∀ (d : Nat) (e : TypeId), noFit p fits d e = true → ∀ count off n, rowAt p fits d e count off n = false := by
  intro d
  induction d with
  | zero => intro e _ count off n; rfl
  | succ d ih =>
    intro e h count off n
    unfold noFit at h
    rw [Bool.and_eq_true, Bool.not_eq_true'] at h
    obtain ⟨h1, h2⟩ := h
    unfold rowAt
    dsimp only
    split
    · rfl
    · rw [h1, Bool.and_false, Bool.false_or]
      cases hu : p.underlying e with
      | none => simp
      | some u =>
        rw [hu] at h2
        cases u with
        | struct fs =>
          dsimp only at h2 ⊢
          have : (fs.any fun f => decide (f.offset ≤ off % p.cellsOf e) && decide (off % p.cellsOf e < f.offset + p.cellsOf f.type) && rowAt p fits d f.type 1 (off % p.cellsOf e - f.offset) n) = false := by
            rw [Array.any_eq_false]
            intro i hi
            have := (Array.all_eq_true.1 h2) i hi
            rw [ih _ this]
            simp
          rw [this]
          simp
        | array m e' =>
          dsimp only at h2 ⊢
          rw [ih _ h2]
          simp
        | _ => simp
theorem lies_no {p : Program} {e u : TypeId} (h : noFit p (sameLayout p p.depth · u) p.depth e = true) (hu : ∀ m u', p.underlying u ≠ some (.array m u')) (d count off n : Nat) : liesAt p d e count off u n = false := by
  cases d with
  | zero => rfl
  | succ d =>
    unfold liesAt
    rw [rowAt_no _ _ h, Bool.false_or]
    split
    · rename_i m u' he; exact absurd he (hu m u')
    · rfl
theorem cells_u8 : (Try.prog).cellsOf 5 = 1 := by kernel_rfl

/-- A slice of bytes that came in. -/
theorem bytes_arg {H : Type} {enc : TypeId × Value → H} {W : World} {base b0 fuel : Nat} {spare : Nat → Bool} {held : Bool} {v : Value} {x : DataW H × List MemPlace} (hval : Value.okWide Try.prog W .any base 37 v)
    (h1 : DataW.trod enc Try.prog W b0 spare held fuel 37 v.cells.toList = some x) : ∃ A n c bs, v = .slice A n c ∧ BytesR W A n c bs := by
  obtain ⟨a, len, cap, rfl⟩ := okWide_slice Try.underlying37 hval
  rcases open_ints Try.underlying37 Try.underlying5 cells_u8 h1 with ⟨hcs, hx⟩ | ⟨a', len', cap', zs, hcs, _, hl, hm, hz, hx, hcell, hwz⟩
  · simp [Value.cells] at hcs
    obtain ⟨rfl, rfl, rfl⟩ := hcs
    exact ⟨none, 0, 0, [], rfl, rfl, Nat.le_refl _, fun h => absurd h (by omega)⟩
  · simp [Value.cells] at hcs
    obtain ⟨rfl, rfl, rfl⟩ := hcs
    have hlen : len ≤ zs.length := by rw [hz]; split <;> omega
    refine ⟨some a', len, cap, (zs.take len).map fun n => UInt8.ofNat n.toNat, rfl, by simp; omega, hl, fun h0 => ?_⟩
    have hhas : W.has Try.prog .any base a' 5 cap := by
      simp only [Value.okWide, Try.underlying37, Cell.okWide, Cell.ok] at hval
      exact hval.2.2
    obtain ⟨_, hsp, row, cells, hsh, hli⟩ := hhas
    obtain ⟨ab, ao, spot⟩ := a'
    dsimp only at hsp hsh hli
    subst hsp
    unfold World.shape? at hsh
    split at hsh
    · rename_i cs t fr hh
      injection hsh with hsh
      injection hsh with e1 e2
      subst e1
      refine ⟨ab, ao, cs, t, fr, rfl, ⟨trivial, hh⟩, fun j hj => ?_⟩
      simp only [List.length_map, List.length_take] at hj
      have hc := hcell j (by omega)
      rw [Addr.add_lit, cell_of_row W ab _ cs _ fr hh] at hc
      rw [hc]
      have hb := hwz zs[j] (List.getElem_mem (by omega))
      simp only [List.getElem_map, List.getElem_take]
      simp only [Lit.wf, Bool.and_eq_true, decide_eq_true_eq] at hb
      have hb1 : 0 ≤ zs[j]'(by omega) ∧ zs[j]'(by omega) ≤ 255 := by
        rw [show IntKind.u8.min = 0 from rfl, show IntKind.u8.max = 255 from rfl] at hb
        exact hb
      have e : zs.getD j 0 = zs[j]'(by omega) := by simp [List.getD, List.getElem?_eq_getElem (show j < zs.length by omega)]
      rw [e]
      congr 2
      rw [UInt8.toNat_ofNat']
      omega
    · cases hsh
end Go.Proofs.Ytccfimgpbmkpiaa
