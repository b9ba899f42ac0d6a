/- TreeHoles: which places have a byte, and which; plain lists. No conditions. -/
import Derived.Test.YtccfimgpbmkpiaaFile
namespace Go.Proofs.Ytccfimgpbmkpiaa
set_option linter.unusedVariables false
set_option linter.unusedSimpArgs false
open Go.RowKit

/-- What has been marked: which of 1100 places have a byte, and which. -/
structure Marks (l : List (Int × UInt8)) (is : List Bool) (cs : List UInt8) : Prop where
  li : is.length = 1100
  lc : cs.length = 1100
  is_ : ∀ k : Nat, k < 1100 → is[k]? = some (hasF l k)
  cs_ : ∀ (k : Nat) (c : UInt8), ((k : Int), c) ∈ l → k < 1100 → cs[k]? = some c

theorem hasF_lt (l : List (Int × UInt8)) (t i : Int) : hasF (l.filter fun x => decide (x.1 < t)) i = (hasF l i && decide (i < t)) := by
  rw [Bool.eq_iff_iff, hasF_true, Bool.and_eq_true, hasF_true, decide_eq_true_eq]
  constructor
  · rintro ⟨c, hc⟩
    obtain ⟨h1, h2⟩ := List.mem_filter.1 hc
    exact ⟨⟨c, h1⟩, by simpa using h2⟩
  · rintro ⟨⟨c, hc⟩, h2⟩
    exact ⟨c, List.mem_filter.2 ⟨hc, by simpa using h2⟩⟩
theorem hasF_ge (l : List (Int × UInt8)) (t i : Int) : hasF (l.filter fun x => decide (t ≤ x.1)) i = (hasF l i && decide (t ≤ i)) := by
  rw [Bool.eq_iff_iff, hasF_true, Bool.and_eq_true, hasF_true, decide_eq_true_eq]
  constructor
  · rintro ⟨c, hc⟩
    obtain ⟨h1, h2⟩ := List.mem_filter.1 hc
    exact ⟨⟨c, h1⟩, by simpa using h2⟩
  · rintro ⟨⟨c, hc⟩, h2⟩
    exact ⟨c, List.mem_filter.2 ⟨hc, by simpa using h2⟩⟩
theorem hasF_wrote (l : List (Int × UInt8)) (at_ : Int) (b : List UInt8) (i : Int) : hasF (wroteF l at_ b) i = (hasF l i || decide (at_ ≤ i ∧ i < at_ + (b.length : Int))) := by
  unfold wroteF
  rw [hasF_append, hasF_append, hasF_lt, hasF_ge, hasF_cells]
  by_cases h1 : i < at_
  · have h2 : ¬ at_ + (b.length : Int) ≤ i := by omega
    have h3 : ¬ (at_ ≤ i ∧ i < at_ + (b.length : Int)) := by omega
    simp [h1, h2, h3]
  · by_cases h2 : at_ + (b.length : Int) ≤ i
    · have h3 : ¬ (at_ ≤ i ∧ i < at_ + (b.length : Int)) := by omega
      simp [h1, h2, h3]
    · have h3 : at_ ≤ i ∧ i < at_ + (b.length : Int) := by omega
      simp [h1, h2, h3]
theorem wrote_mem_in {l : List (Int × UInt8)} {at_ : Int} {b : List UInt8} {i : Int} {c : UInt8} (h : (i, c) ∈ wroteF l at_ b) :
    (at_ ≤ i ∧ i < at_ + (b.length : Int) ∧ b[(i - at_).toNat]? = some c) ∨ ((i < at_ ∨ at_ + (b.length : Int) ≤ i) ∧ (i, c) ∈ l) := by
  unfold wroteF at h
  rcases List.mem_append.1 h with h | h
  · rcases List.mem_append.1 h with h | h
    · obtain ⟨h1, h2⟩ := List.mem_filter.1 h
      exact .inr ⟨.inl (by simpa using h2), h1⟩
    · obtain ⟨h1, h2⟩ := (cellsFrom_mem _ _ _ _).1 h
      have := cellsFrom_bounds h
      exact .inl ⟨this.1, this.2, h2⟩
  · obtain ⟨h1, h2⟩ := List.mem_filter.1 h
    exact .inr ⟨.inr (by simpa using h2), h1⟩

/-! ### cut off -/
/-- is, with the places from a up to k cleared. -/
def Cleared (l : List (Int × UInt8)) (a k : Nat) (is : List Bool) : Prop := is.length = 1100 ∧ ∀ i : Nat, i < 1100 → is[i]? = some (hasF l i && !decide (a ≤ i ∧ i < k))
theorem Cleared.step {l : List (Int × UInt8)} {a k : Nat} {is : List Bool} (h : Cleared l a k is) (ha : a ≤ k) (hk : k < 1100) : Cleared l a (k + 1) (is.set k false) := by
  refine ⟨by simp [h.1], fun i hi => ?_⟩
  rw [List.getElem?_set]
  by_cases e : k = i
  · subst e
    rw [if_pos rfl, if_pos (by rw [h.1]; exact hk)]
    simp [ha]
  · rw [if_neg e, h.2 i hi]
    congr 2
    by_cases h1 : a ≤ i ∧ i < k
    · have : a ≤ i ∧ i < k + 1 := by omega
      simp [h1, this]
    · have : ¬ (a ≤ i ∧ i < k + 1) := by omega
      simp only [decide_eq_false h1, decide_eq_false this]
theorem Cleared.at_ {l : List (Int × UInt8)} {a k : Nat} {is : List Bool} (h : Cleared l a k is) (hk : k < 1100) : is[k]? = some (hasF l k) := by
  rw [h.2 k hk]; simp
theorem cnt_snoc (has : Int → Bool) : ∀ (k : Nat) (a : Int), cnt has (k + 1) a = cnt has k a + if has (a + k) then 1 else 0
  | 0, a => by simp [cnt]
  | k + 1, a => by
    rw [cnt, cnt_snoc has k (a + 1), cnt, show a + 1 + (k : Int) = a + ((k + 1 : Nat) : Int) by omega]
    omega
theorem Cleared.done {l : List (Int × UInt8)} {a : Nat} {is : List Bool} {cs : List UInt8} (h : Cleared l a 1100 is) (hm : ∀ (k : Nat) (c : UInt8), ((k : Int), c) ∈ l → k < 1100 → cs[k]? = some c) (hc : cs.length = 1100) : Marks (l.filter fun x => decide (x.1 < (a : Int))) is cs := by
  refine ⟨h.1, hc, fun k hk => ?_, fun k c hkc hk => hm k c (List.mem_filter.1 hkc).1 hk⟩
  rw [h.2 k hk, hasF_lt]
  congr 2
  by_cases e : a ≤ k
  · have h1 : ¬ (k : Int) < (a : Int) := by omega
    simp [e, h1, hk]
  · have h1 : (k : Int) < (a : Int) := by omega
    simp [e, h1]
theorem cut_count {l : List (Int × UInt8)} (hn : l.Pairwise fun x y => x.1 < y.1) (hb : ∀ x ∈ l, 0 ≤ x.1 ∧ x.1 < 1100) {a : Nat} (ha : a ≤ 1100) : (l.filter fun x => decide (x.1 < (a : Int))).length + cnt (hasF l) (1100 - a) a = l.length := by
  have := filter_split l a (1100 - a) hn
  have e : (l.filter fun x => decide ((a : Int) + ((1100 - a : Nat) : Int) ≤ x.1)) = [] := by
    rw [List.filter_eq_nil_iff]
    intro x hx
    have := hb x hx
    simp
    omega
  rw [e] at this
  simpa using this

/-! ### written -/
/-- is and cs, with n bytes of b put from a on. -/
structure Put (l : List (Int × UInt8)) (cs0 : List UInt8) (a n : Nat) (b : List UInt8) (is : List Bool) (cs : List UInt8) : Prop where
  li : is.length = 1100
  lc : cs.length = 1100
  is_ : ∀ i : Nat, i < 1100 → is[i]? = some (hasF l i || decide (a ≤ i ∧ i < a + n))
  cs_ : ∀ i : Nat, i < 1100 → cs[i]? = if a ≤ i ∧ i < a + n then b[i - a]? else cs0[i]?
theorem Put.start {l : List (Int × UInt8)} {is : List Bool} {cs : List UInt8} (h : Marks l is cs) (a : Nat) (b : List UInt8) : Put l cs a 0 b is cs := by
  refine ⟨h.li, h.lc, fun i hi => ?_, fun i hi => ?_⟩
  · have : ¬ (a ≤ i ∧ i < a + 0) := by omega
    rw [h.is_ i hi, decide_eq_false this, Bool.or_false]
  · have : ¬ (a ≤ i ∧ i < a + 0) := by omega
    rw [if_neg this]
theorem Put.step {l : List (Int × UInt8)} {cs0 : List UInt8} {a n : Nat} {b : List UInt8} {is : List Bool} {cs : List UInt8} (h : Put l cs0 a n b is cs) (hn : n < b.length) (ha : a + n < 1100) : Put l cs0 a (n + 1) b (is.set (a + n) true) (cs.set (a + n) b[n]) := by
  refine ⟨by simp [h.li], by simp [h.lc], fun i hi => ?_, fun i hi => ?_⟩
  · rw [List.getElem?_set]
    by_cases e : a + n = i
    · subst e
      rw [if_pos rfl, if_pos (by rw [h.li]; exact ha)]
      have : a ≤ a + n ∧ a + n < a + (n + 1) := by omega
      rw [decide_eq_true this, Bool.or_true]
    · rw [if_neg e, h.is_ i hi]
      have : (a ≤ i ∧ i < a + n) ↔ (a ≤ i ∧ i < a + (n + 1)) := by omega
      rw [decide_eq_decide.2 this]
  · rw [List.getElem?_set]
    by_cases e : a + n = i
    · subst e
      have : a ≤ a + n ∧ a + n < a + (n + 1) := by omega
      rw [if_pos rfl, if_pos (by rw [h.lc]; exact ha), if_pos this, show a + n - a = n by omega, List.getElem?_eq_getElem hn]
    · rw [if_neg e, h.cs_ i hi]
      by_cases h1 : a ≤ i ∧ i < a + n
      · rw [if_pos h1, if_pos (by omega)]
      · rw [if_neg h1, if_neg (by omega)]
theorem Put.at_ {l : List (Int × UInt8)} {cs0 : List UInt8} {a n : Nat} {b : List UInt8} {is : List Bool} {cs : List UInt8} (h : Put l cs0 a n b is cs) (ha : a + n < 1100) : is[a + n]? = some (hasF l ((a + n : Nat) : Int)) := by
  rw [h.is_ _ ha]
  have : ¬ (a ≤ a + n ∧ a + n < a + n) := by omega
  rw [decide_eq_false this, Bool.or_false]
theorem Put.done {l : List (Int × UInt8)} {is0 : List Bool} {cs0 : List UInt8} {a n : Nat} {b : List UInt8} {is : List Bool} {cs : List UInt8} (hm : Marks l is0 cs0) (h : Put l cs0 a n b is cs) (hn : n ≤ b.length) : Marks (wroteF l a (b.take n)) is cs := by
  have hl : (b.take n).length = n := by rw [List.length_take]; omega
  refine ⟨h.li, h.lc, fun k hk => ?_, fun k c hkc hk => ?_⟩
  · rw [h.is_ k hk, hasF_wrote, hl]
    have : (a ≤ k ∧ k < a + n) ↔ ((a : Int) ≤ (k : Int) ∧ (k : Int) < (a : Int) + (n : Int)) := by omega
    rw [decide_eq_decide.2 this]
  · rw [h.cs_ k hk]
    rcases wrote_mem_in hkc with ⟨h1, h2, h3⟩ | ⟨h1, h2⟩
    · rw [hl] at h2
      rw [if_pos (by omega)]
      rw [show ((k : Int) - (a : Int)).toNat = k - a by omega, List.getElem?_take] at h3
      split at h3
      · exact h3
      · cases h3
    · rw [hl] at h1
      rw [if_neg (by omega)]
      exact hm.cs_ k c h2 hk
/-- The walk byte by byte, one step on. -/
theorem greedy_step_has {has : Int → Bool} {n : Nat} {pos : Int} {room : Nat} (h : has pos = true) : greedy has (n + 1) pos room = ((greedy has n (pos + 1) room).1 + 1, (greedy has n (pos + 1) room).2) := by
  rw [greedy, if_pos h]
theorem greedy_step_new {has : Int → Bool} {n : Nat} {pos : Int} {room : Nat} (h : has pos = false) (hr : room ≠ 0) : greedy has (n + 1) pos room = ((greedy has n (pos + 1) (room - 1)).1 + 1, (greedy has n (pos + 1) (room - 1)).2 + 1) := by
  rw [greedy, if_neg (by rw [h]; simp), if_neg hr]
theorem greedy_step_stop {has : Int → Bool} {n : Nat} {pos : Int} {room : Nat} (h : has pos = false) (hr : room = 0) : greedy has (n + 1) pos room = (0, 0) := by
  rw [greedy, if_neg (by rw [h]; simp), if_pos hr]

/-! ### read -/
theorem splice_get {α : Type} (L : List α) (off : Nat) (cs : List α) (h : off + cs.length ≤ L.length) (k : Nat) : (splice L off cs)[k]? = if off ≤ k ∧ k < off + cs.length then cs[k - off]? else L[k]? := by
  unfold splice
  rw [List.getElem?_append, List.getElem?_append, List.length_take]
  by_cases h1 : k < off
  · rw [if_pos (by omega), List.getElem?_take, if_pos h1, if_neg (by omega)]
  · rw [if_neg (by omega)]
    by_cases h2 : k < off + cs.length
    · rw [if_pos (by omega), if_pos (by omega)]
      congr 1
      omega
    · rw [if_neg (by omega), if_neg (by omega), List.getElem?_drop]
      congr 1
      omega
theorem laid_get (N : Nat) : ∀ (qs : List CP) (L : List Value), (∀ p ∈ qs, 0 ≤ p.at_ ∧ p.at_ + (p.len : Int) ≤ (N : Int) ∧ p.bs.length = p.len) → (cont qs).Pairwise (fun p q => p.1 + (p.2.length : Int) ≤ q.1) → L.length = N → ∀ k : Nat,
    (∀ c, ((k : Int), c) ∈ flat (cont qs) → (laid 0 qs L)[k]? = some (.int .u8 (c.toNat : Int))) ∧ ((∀ c, ((k : Int), c) ∉ flat (cont qs)) → (laid 0 qs L)[k]? = L[k]?)
  | [], L, _, _, _, k => ⟨(fun c h => absurd h (by simp [flat, cont])), fun _ => rfl⟩
  | p :: qs, L, hb, hp, hL, k => by
    rw [cont_cons, List.pairwise_cons] at hp
    obtain ⟨b1, b2, b3⟩ := hb p (by simp)
    have hfit : (p.at_ - 0).toNat + (bvals p.bs).length ≤ L.length := by rw [hL]; simp [bvals]; omega
    obtain ⟨i1, i2⟩ := laid_get N qs (splice L (p.at_ - 0).toNat (bvals p.bs)) (fun q hq => hb q (List.mem_cons_of_mem _ hq)) hp.2 (by rw [length_splice _ _ _ hfit, hL]) k
    have hlater : ∀ x ∈ flat (cont qs), p.at_ + (p.bs.length : Int) ≤ x.1 := by
      intro x hx
      obtain ⟨y, hy, hx⟩ := flat_mem hx
      have h1 := hp.1 y hy
      have h2 := cellsFrom_bounds hx
      dsimp only at h1
      omega
    have e : laid 0 (p :: qs) L = laid 0 qs (splice L (p.at_ - 0).toNat (bvals p.bs)) := rfl
    have hget := splice_get L (p.at_ - 0).toNat (bvals p.bs) hfit k
    have hbl : (bvals p.bs).length = p.bs.length := by simp [bvals]
    rw [hbl] at hget
    refine ⟨fun c hc => ?_, fun hno => ?_⟩
    · rw [cont_cons, flat_cons] at hc
      rw [e]
      rcases List.mem_append.1 hc with hc | hc
      · have hbd := cellsFrom_bounds hc
        obtain ⟨_, h2⟩ := (cellsFrom_mem _ _ _ _).1 hc
        dsimp only at hbd h2
        rw [i2 (fun c' hc' => by have := hlater _ hc'; dsimp only at this; omega), hget, if_pos (by omega)]
        rw [show ((k : Int) - p.at_).toNat = k - (p.at_ - 0).toNat by omega] at h2
        unfold bvals
        rw [List.getElem?_map, h2]
        rfl
      · exact i1 c hc
    · rw [cont_cons, flat_cons] at hno
      rw [e, i2 (fun c hc => hno c (List.mem_append_right _ hc)), hget, if_neg]
      intro hin
      have h0 : ((k : Int) - p.at_).toNat < p.bs.length := by omega
      exact hno p.bs[((k : Int) - p.at_).toNat] (List.mem_append_left _ ((cellsFrom_mem _ _ _ _).2 ⟨by dsimp only; omega, List.getElem?_eq_getElem h0⟩))
/-- What a file reads as. -/
def wantL (is : List Bool) (cs : List UInt8) (S : Nat) : List UInt8 := (List.range S).map fun k => if is.getD k false then cs.getD k 0 else 0
theorem read_want {ps : List CP} {is : List Bool} {cs : List UInt8} {S : Nat} (hl : ∀ p ∈ ps, p.bs.length = p.len) (hs : Sep (cont ps)) (hm : Marks (flat (cont ps)) is cs) (hS : S ≤ 1100) :
    laid 0 (partL ps 0 (0 + (S : Int))) (List.replicate S (.int .u8 0)) = bvals (wantL is cs S) := by
  have hq : ∀ p ∈ partL ps 0 (0 + (S : Int)), 0 ≤ p.at_ ∧ p.at_ + (p.len : Int) ≤ (S : Int) ∧ p.bs.length = p.len := by
    intro p hp
    obtain ⟨q, hq, hlt, rfl⟩ := partL_mem hp
    have := hl q hq
    simp only [CP.cut, List.length_take, List.length_drop]
    omega
  have hlen : (laid 0 (partL ps 0 (0 + (S : Int))) (List.replicate S (.int .u8 0))).length = S := laid_length 0 S _ _ (fun p hp => by have := hq p hp; omega) (by simp)
  apply List.ext_getElem?
  intro k
  by_cases hk : k < S
  · obtain ⟨g1, g2⟩ := laid_get S (partL ps 0 (0 + (S : Int))) (List.replicate S (.int .u8 0)) hq (cont_partL_row hl hs.row.apart _ _).apart (by simp) k
    have hr : (bvals (wantL is cs S))[k]? = some (.int .u8 ((if is.getD k false then cs.getD k 0 else 0 : UInt8).toNat : Int)) := by
      unfold bvals wantL
      rw [List.map_map, List.getElem?_map, List.getElem?_range hk]
      rfl
    rw [hr]
    have hi := hm.is_ k (by omega)
    have hgi : is.getD k false = hasF (flat (cont ps)) k := by rw [List.getD, hi]; rfl
    rw [flat_partL _ _ ps hl] at g1 g2
    by_cases hh : hasF (flat (cont ps)) (k : Int) = true
    · obtain ⟨c, hc⟩ := hasF_true.1 hh
      rw [g1 c (List.mem_filter.2 ⟨hc, by simp [inR]; omega⟩), hgi, if_pos hh]
      have := hm.cs_ k c hc (by omega)
      rw [List.getD, this]
      rfl
    · rw [g2 (fun c hc => hh (hasF_true.2 ⟨c, (List.mem_filter.1 hc).1⟩)), hgi, if_neg hh, List.getElem?_replicate, if_pos hk]
      rfl
  · rw [List.getElem?_eq_none (by omega), List.getElem?_eq_none (by simp [bvals, wantL]; omega)]
end Go.Proofs.Ytccfimgpbmkpiaa
