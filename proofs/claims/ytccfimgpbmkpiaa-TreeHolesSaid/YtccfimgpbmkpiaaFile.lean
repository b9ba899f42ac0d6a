/- A file's bytes as cells: what Write and Grow make of them. Conditions: the counters are in bounds. -/
import Derived.Test.YtccfimgpbmkpiaaWriteN
namespace Go.Proofs.Ytccfimgpbmkpiaa
set_option linter.unusedVariables false
set_option linter.unusedSimpArgs false
set_option maxRecDepth 100000
open Go.RowKit Go.MapKept

/-- A file that may be. -/
structure FileOk (r : NodeR) : Prop where
  kind : r.n.kind = 1
  sep : Sep (cont r.pieces)
  lens : ∀ p ∈ r.pieces, p.bs.length = p.len
  bnd : ∀ x ∈ flat (cont r.pieces), 0 ≤ x.1 ∧ x.1 < 1099511627776
  few : (flat (cont r.pieces)).length ≤ 524288
  plen : r.plen = r.pieces.length

theorem bnd_of_flat {ps : List CP} (hs : Sep (cont ps)) (hl : ∀ p ∈ ps, p.bs.length = p.len) {lo hi : Int} (h : ∀ x ∈ flat (cont ps), lo ≤ x.1 ∧ x.1 < hi) : ∀ p ∈ ps, lo ≤ p.at_ ∧ p.at_ + (p.len : Int) ≤ hi := by
  intro p hp
  have hm : (p.at_, p.bs) ∈ cont ps := List.mem_map.2 ⟨p, hp, rfl⟩
  have hne := hs.some_ _ hm
  have h0 : 0 < p.bs.length := List.length_pos_iff.2 hne
  have hsub : ∀ x ∈ cellsFrom p.at_ p.bs, x ∈ flat (cont ps) := fun x hx => List.mem_flatMap.2 ⟨_, hm, hx⟩
  have h1 := h _ (hsub (p.at_, p.bs[0]) ((cellsFrom_mem _ _ _ _).2 ⟨Int.le_refl _, by rw [show (p.at_ - p.at_).toNat = 0 by omega]; exact List.getElem?_eq_getElem h0⟩))
  have h2 := h _ (hsub (p.at_ + ((p.bs.length - 1 : Nat) : Int), p.bs[p.bs.length - 1]) ((cellsFrom_mem _ _ _ _).2 ⟨by omega, by rw [show (p.at_ + ((p.bs.length - 1 : Nat) : Int) - p.at_).toNat = p.bs.length - 1 by omega]; exact List.getElem?_eq_getElem (by omega)⟩))
  have := hl p hp
  dsimp only at h1 h2
  omega
theorem few_of_flat : ∀ {l : List (Int × List UInt8)}, (∀ p ∈ l, p.2 ≠ []) → l.length ≤ (flat l).length
  | [], _ => Nat.le_refl _
  | p :: l, h => by
    have h1 := few_of_flat (l := l) fun q hq => h q (List.mem_cons_of_mem _ hq)
    have h2 : 0 < p.2.length := List.length_pos_iff.2 (h p (by simp))
    rw [flat_cons, List.length_append, cellsFrom_length, List.length_cons]
    omega
theorem FileOk.pcok {r : NodeR} (h : FileOk r) : PcOk r.pieces := fun p hp => by
  have := bnd_of_flat h.sep h.lens h.bnd p hp
  omega
theorem FileOk.asc {r : NodeR} (h : FileOk r) : Asc 0 r.pieces := asc_of_row r.pieces h.lens h.sep.row.apart fun p hp => (bnd_of_flat h.sep h.lens h.bnd p hp).1
theorem FileOk.plen_le {r : NodeR} (h : FileOk r) : r.plen ≤ 524288 := by
  have h1 := few_of_flat h.sep.some_
  have h2 := h.few
  have h3 : (cont r.pieces).length = r.pieces.length := by simp [cont]
  rw [h.plen]
  omega
theorem sumLen_flat {ps : List CP} (hl : ∀ p ∈ ps, p.bs.length = p.len) : sumLen ps = (flat (cont ps)).length := by
  rw [flat_length]
  unfold sumLen cont
  rw [List.map_map]
  congr 1
  exact List.map_congr_left fun p hp => (hl p hp).symm

/-- What fits of a write. -/
def fitN (A : FSA) (r : NodeR) (at_ : Int) (n : Nat) : Nat × Nat := greedy (hasF (flat (cont r.pieces))) n at_ (A.quota - A.used).toNat
/-- The cells behind a write of b. -/
def wroteF (l : List (Int × UInt8)) (at_ : Int) (b : List UInt8) : List (Int × UInt8) := l.filter (fun x => decide (x.1 < at_)) ++ cellsFrom at_ b ++ l.filter (fun x => decide (at_ + (b.length : Int) ≤ x.1))

def WriteAny (A : FSA) (r : NodeR) (at_ : Int) (n : Nat) (bs : List UInt8) (w : World) (e : Ending) (w' : World) : Prop :=
  e = .returned (.int .i64 (if (fitN A r at_ n).1 < n then 5 else 0)) ∧ Frm (fun b => b = A.fb ∨ b = r.blk) w w' ∧
    (((fitN A r at_ n).1 = 0 ∧ FSAt w' A) ∨ (0 < (fitN A r at_ n).1 ∧ ∃ P pn pc ps, FSAt w' (A.wrote r P pn pc ps (max r.n.size (at_ + (fitN A r at_ n).1)) (fitN A r at_ n).2) ∧ Sep (cont ps) ∧ flat (cont ps) = wroteF (flat (cont r.pieces)) at_ (bs.take (fitN A r at_ n).1)))

theorem write_any {w : World} {A : FSA} (h : FSAt w A) {ino : Int} {r : NodeR} (hr : A.node? ino = some r) (hF : FileOk r) (at_ : Int) (B : Option Addr) (n bc : Nat) (bs : List UInt8) (hB : BytesR w B n bc bs)
    (ha0 : 0 ≤ at_) (ha1 : at_ + (n : Int) ≤ 1099511627776) (hq0 : 0 ≤ A.used) (hq1 : A.used ≤ A.quota) (hq2 : A.quota ≤ 4611686018427387904) (hc0 : 0 ≤ A.clock) (hc1 : A.clock < 4611686018427387904) :
    Calls Try.prog 15 #[A.fp, .int .i64 ino, .int .i64 at_, .slice B n bc] w (WriteAny A r at_ n bs w) := by
  have hfit : fitsL r.pieces at_ n (A.quota - A.used) = (((fitN A r at_ n).1 : Int), ((fitN A r at_ n).2 : Int)) := by
    have := fits_greedy hF.lens hF.asc at_ n (A.quota - A.used).toNat
    rw [show (((A.quota - A.used).toNat : Nat) : Int) = A.quota - A.used by omega] at this
    exact this
  obtain ⟨g1, g2, g3⟩ := greedy_le (hasF (flat (cont r.pieces))) n at_ (A.quota - A.used).toNat
  by_cases h0 : n = 0
  · subst h0
    refine (write_zero h hr hF.kind at_ B bc ha0 (by omega)).mono ?_
    rintro e w' ⟨rfl, rfl⟩
    exact ⟨by rfl, Frm.refl _ _, .inl ⟨rfl, h⟩⟩
  · by_cases hK : (fitN A r at_ n).1 = 0
    · rw [hK] at hfit
      refine (write_none h hr hF.kind at_ B n bc ha0 ha1 (by omega) hF.plen_le hF.pcok hF.asc hq0 hq1 hq2 hfit).mono ?_
      rintro e w' ⟨rfl, hb⟩
      exact ⟨by rw [if_pos (by omega)], Frm.of_below hb _, .inl ⟨hK, h.below hb⟩⟩
    · have hK1 : (fitN A r at_ n).1 ≤ n := g1
      refine (write_pos (K := (fitN A r at_ n).1) (more := (fitN A r at_ n).2) h hr hF.kind at_ B n bc bs hB ha0 ha1 (by omega) hF.plen_le hF.pcok hF.asc hq0 hq1 hq2 hc0 hc1 hfit (by omega) hK1 (by omega) (by
        have : (fitN A r at_ n).2 ≤ (A.quota - A.used).toNat := g2
        omega)).mono ?_
      rintro e w' ⟨rfl, P, pn, pc, ps, hcon, h1, hf⟩
      have hlen : (bs.take (fitN A r at_ n).1).length = (fitN A r at_ n).1 := by rw [List.length_take, hB.1]; omega
      rw [← hlen] at hcon
      refine ⟨rfl, hf, .inr ⟨by omega, P, pn, pc, ps, h1, ?_, ?_⟩⟩
      · rw [hcon, hlen]
        have := row_wrote hF.lens hF.sep.row.apart at_ (bs.take (fitN A r at_ n).1) (fun e => by rw [e] at hlen; simp at hlen; omega)
        rwa [hlen] at this
      · rw [hcon, hlen]
        have := flat_wrote hF.lens at_ (bs.take (fitN A r at_ n).1) (bnd_of_flat hF.sep hF.lens hF.bnd)
        rw [hlen] at this
        rw [this]
        unfold wroteF
        rw [hlen]
theorem wroteF_length {l : List (Int × UInt8)} (hn : l.Pairwise fun x y => x.1 < y.1) (at_ : Int) (b : List UInt8) : (wroteF l at_ b).length + cnt (hasF l) b.length at_ = l.length + b.length := by
  have := filter_split l at_ b.length hn
  unfold wroteF
  rw [List.length_append, List.length_append, cellsFrom_length]
  omega
theorem wroteF_mem {l : List (Int × UInt8)} {at_ : Int} {b : List UInt8} {x : Int × UInt8} (h : x ∈ wroteF l at_ b) : x ∈ l ∨ (at_ ≤ x.1 ∧ x.1 < at_ + (b.length : Int)) := by
  unfold wroteF at h
  rcases List.mem_append.1 h with h | h
  · rcases List.mem_append.1 h with h | h
    · exact .inl (List.mem_filter.1 h).1
    · exact .inr (cellsFrom_bounds h)
  · exact .inl (List.mem_filter.1 h).1
theorem flat_grown {ps : List CP} (hl : ∀ p ∈ ps, p.bs.length = p.len) (hb : ∀ x ∈ flat (cont ps), 0 ≤ x.1) (size : Int) : flat (cont (partL ps 0 size)) = (flat (cont ps)).filter (fun x => decide (x.1 < size)) := by
  rw [flat_partL 0 size ps hl]
  refine List.filter_congr fun x hx => ?_
  simp [inR, hb x hx]
theorem apart_partL (f t : Int) {ps : List CP} (hl : ∀ p ∈ ps, p.bs.length = p.len) : (cont ps).Pairwise (fun p q => p.1 + (p.2.length : Int) < q.1) → (cont (partL ps f t)).Pairwise (fun p q => p.1 + (p.2.length : Int) < q.1) := by
  induction ps with
  | nil => intro _; exact List.Pairwise.nil
  | cons p ps ih =>
    intro h
    rw [cont_cons, List.pairwise_cons] at h
    have ih := ih (fun q hq => hl q (List.mem_cons_of_mem _ hq)) h.2
    have hlp := hl p (by simp)
    unfold partL at ih ⊢
    rw [List.filterMap_cons]
    by_cases hlt : max p.at_ f < min (p.at_ + (p.len : Int)) t
    · rw [if_pos hlt]
      dsimp only
      rw [cont_cons, List.pairwise_cons]
      refine ⟨?_, ih⟩
      intro x hx
      obtain ⟨y, hy, rfl⟩ := List.mem_map.1 hx
      obtain ⟨q, hq, hq2, rfl⟩ := partL_mem (f := f) (t := t) hy
      have h1 := h.1 (q.at_, q.bs) (List.mem_map.2 ⟨q, hq, rfl⟩)
      simp only [CP.cut, List.length_take, List.length_drop] at h1 ⊢
      omega
    · rw [if_neg hlt]; exact ih
theorem sep_partL {ps : List CP} (hl : ∀ p ∈ ps, p.bs.length = p.len) (h : Sep (cont ps)) (f t : Int) : Sep (cont (partL ps f t)) := ⟨apart_partL f t hl h.apart, (cont_partL_row hl h.row.apart f t).some_⟩
end Go.Proofs.Ytccfimgpbmkpiaa
