/- Bytes at places: pieces as rows of cells, what part, fits and over make of them; plain lists. No conditions. -/
import Derived.Test.YtccfimgpbmkpiaaOver
namespace Go.Proofs.Ytccfimgpbmkpiaa
set_option linter.unusedVariables false
set_option linter.unusedSimpArgs false

/-- The cells of a row of bytes from a place on. -/
def cellsFrom : Int → List UInt8 → List (Int × UInt8)
  | _, [] => []
  | a, c :: cs => (a, c) :: cellsFrom (a + 1) cs
def flat (l : List (Int × List UInt8)) : List (Int × UInt8) := l.flatMap fun p => cellsFrom p.1 p.2

theorem cellsFrom_length : ∀ (bs : List UInt8) (a : Int), (cellsFrom a bs).length = bs.length
  | [], _ => rfl
  | c :: cs, a => by simp [cellsFrom, cellsFrom_length cs]
theorem cellsFrom_append : ∀ (x y : List UInt8) (a : Int), cellsFrom a (x ++ y) = cellsFrom a x ++ cellsFrom (a + (x.length : Int)) y
  | [], y, a => by simp [cellsFrom]
  | c :: cs, y, a => by
    rw [List.cons_append, cellsFrom, cellsFrom, cellsFrom_append cs, List.cons_append, List.length_cons]
    rw [show a + 1 + (cs.length : Int) = a + ((cs.length + 1 : Nat) : Int) by omega]
theorem cellsFrom_mem : ∀ (bs : List UInt8) (a i : Int) (c : UInt8), (i, c) ∈ cellsFrom a bs ↔ a ≤ i ∧ bs[(i - a).toNat]? = some c
  | [], a, i, c => by simp [cellsFrom]
  | b :: cs, a, i, c => by
    rw [cellsFrom, List.mem_cons, cellsFrom_mem cs]
    by_cases h : i = a
    · subst h
      have e : (i - i).toNat = 0 := by omega
      rw [e]
      simp
      constructor
      · rintro (h | ⟨h, _⟩)
        · exact h.symm
        · omega
      · intro h; exact .inl h.symm
    · by_cases h2 : a + 1 ≤ i
      · have e : (i - a).toNat = (i - (a + 1)).toNat + 1 := by omega
        rw [e]
        simp [h, h2]
        omega
      · simp [h, h2]
        intro h3
        omega
theorem cellsFrom_bounds {bs : List UInt8} {a : Int} {x : Int × UInt8} (h : x ∈ cellsFrom a bs) : a ≤ x.1 ∧ x.1 < a + (bs.length : Int) := by
  obtain ⟨i, c⟩ := x
  obtain ⟨h1, h2⟩ := (cellsFrom_mem bs a i c).1 h
  obtain ⟨h3, _⟩ := List.getElem?_eq_some_iff.1 h2
  dsimp only
  omega
theorem flat_append (a b : List (Int × List UInt8)) : flat (a ++ b) = flat a ++ flat b := by simp [flat]
theorem flat_cons (p : Int × List UInt8) (l : List (Int × List UInt8)) : flat (p :: l) = cellsFrom p.1 p.2 ++ flat l := by simp [flat]
theorem flat_one (p : Int × List UInt8) : flat [p] = cellsFrom p.1 p.2 := by simp [flat]
theorem flat_mem {l : List (Int × List UInt8)} {x : Int × UInt8} (h : x ∈ flat l) : ∃ p ∈ l, x ∈ cellsFrom p.1 p.2 := List.mem_flatMap.1 h
theorem flat_length (l : List (Int × List UInt8)) : (flat l).length = (l.map (·.2.length)).sum := by
  induction l with
  | nil => rfl
  | cons p l ih => rw [flat_cons, List.length_append, ih, cellsFrom_length]; simp

/-! ### merging -/
theorem flat_mergeStep (out : List (Int × List UInt8)) (p : Int × List UInt8) : flat (mergeStep out p) = flat out ++ cellsFrom p.1 p.2 := by
  rcases nil_or_snoc out with rfl | ⟨i, q, rfl⟩
  · simp [mergeStep, flat]
  · unfold mergeStep
    rw [show (i ++ [q]).getLast? = some q by simp]
    dsimp only
    split
    · rename_i h
      rw [List.dropLast_concat, flat_append, flat_append, flat_one, flat_one, cellsFrom_append, h, List.append_assoc]
    · rw [flat_append, flat_one]
theorem flat_foldl (l : List (Int × List UInt8)) : ∀ acc, flat (l.foldl mergeStep acc) = flat acc ++ flat l := by
  induction l with
  | nil => intro acc; simp [flat]
  | cons p l ih => intro acc; rw [List.foldl_cons, ih, flat_mergeStep, flat_cons, List.append_assoc]
theorem flat_mergeV (l : List (Int × List UInt8)) : flat (mergeV l) = flat l := by
  unfold mergeV
  rw [flat_foldl]; simp [flat]

/-- Pieces in order, none beside another, none empty. -/
structure Sep (l : List (Int × List UInt8)) : Prop where
  apart : l.Pairwise fun p q => p.1 + (p.2.length : Int) < q.1
  some_ : ∀ p ∈ l, p.2 ≠ []
/-- Pieces in order, none empty. -/
structure Row (l : List (Int × List UInt8)) : Prop where
  apart : l.Pairwise fun p q => p.1 + (p.2.length : Int) ≤ q.1
  some_ : ∀ p ∈ l, p.2 ≠ []
theorem Sep.row {l : List (Int × List UInt8)} (h : Sep l) : Row l := ⟨h.apart.imp (fun h => by omega), h.some_⟩
theorem Sep.nil : Sep [] := ⟨List.Pairwise.nil, fun p h => by cases h⟩

theorem sep_step {acc : List (Int × List UInt8)} (h : Sep acc) {p : Int × List UInt8} (hp : p.2 ≠ []) (hb : ∀ q ∈ acc, q.1 + (q.2.length : Int) ≤ p.1) :
    Sep (mergeStep acc p) ∧ ∀ q ∈ mergeStep acc p, q.1 + (q.2.length : Int) ≤ p.1 + (p.2.length : Int) := by
  rcases nil_or_snoc acc with rfl | ⟨i, q, rfl⟩
  · have : mergeStep [] p = [p] := rfl
    rw [this]
    refine ⟨⟨List.pairwise_singleton _ _, fun x hx => ?_⟩, fun x hx => ?_⟩
    · rw [List.mem_singleton.1 hx]; exact hp
    · rw [List.mem_singleton.1 hx]; omega
  · obtain ⟨ha, hs⟩ := h
    rw [List.pairwise_append] at ha
    obtain ⟨h1, _, h3⟩ := ha
    have hq := hb q (by simp)
    have e : mergeStep (i ++ [q]) p = if q.1 + (q.2.length : Int) = p.1 then i ++ [(q.1, q.2 ++ p.2)] else (i ++ [q]) ++ [p] := by
      unfold mergeStep
      rw [show (i ++ [q]).getLast? = some q by simp]
      dsimp only
      rw [List.dropLast_concat]
    rw [e]
    split
    · rename_i he
      refine ⟨⟨?_, ?_⟩, ?_⟩
      · rw [List.pairwise_append]
        refine ⟨h1, List.pairwise_singleton _ _, fun x hx y hy => ?_⟩
        rw [List.mem_singleton.1 hy]
        exact h3 x hx q (by simp)
      · intro x hx
        rcases List.mem_append.1 hx with hx | hx
        · exact hs x (List.mem_append_left _ hx)
        · rw [List.mem_singleton.1 hx]
          simp [hp]
      · intro x hx
        rcases List.mem_append.1 hx with hx | hx
        · have := h3 x hx q (by simp)
          omega
        · rw [List.mem_singleton.1 hx]
          simp only [List.length_append]
          omega
    · rename_i he
      refine ⟨⟨?_, ?_⟩, ?_⟩
      · rw [List.pairwise_append]
        refine ⟨?_, List.pairwise_singleton _ _, fun x hx y hy => ?_⟩
        · rw [List.pairwise_append]
          exact ⟨h1, List.pairwise_singleton _ _, h3⟩
        · rw [List.mem_singleton.1 hy]
          rcases List.mem_append.1 hx with hx | hx
          · have := h3 x hx q (by simp)
            omega
          · rw [List.mem_singleton.1 hx]
            omega
      · intro x hx
        rcases List.mem_append.1 hx with hx | hx
        · exact hs x hx
        · rw [List.mem_singleton.1 hx]; exact hp
      · intro x hx
        rcases List.mem_append.1 hx with hx | hx
        · have := hb x hx
          omega
        · rw [List.mem_singleton.1 hx]; omega
theorem sep_foldl : ∀ (l acc : List (Int × List UInt8)), Sep acc → Row l → (∀ q ∈ acc, ∀ p ∈ l, q.1 + (q.2.length : Int) ≤ p.1) → Sep (l.foldl mergeStep acc)
  | [], acc, h, _, _ => h
  | p :: l, acc, h, hr, hb => by
    obtain ⟨ha, hs⟩ := hr
    rw [List.pairwise_cons] at ha
    obtain ⟨h1, h2⟩ := sep_step h (hs p (by simp)) (fun q hq => hb q hq p (by simp))
    rw [List.foldl_cons]
    exact sep_foldl l _ h1 ⟨ha.2, fun x hx => hs x (List.mem_cons_of_mem _ hx)⟩ fun q hq x hx => by
      have := h2 q hq
      have := ha.1 x hx
      omega
theorem sep_mergeV {l : List (Int × List UInt8)} (h : Row l) : Sep (mergeV l) := sep_foldl l [] Sep.nil h (fun q hq => by cases hq)

/-! ### parts -/
theorem cellsFrom_ge (lo : Int) : ∀ (bs : List UInt8) (a : Int), (cellsFrom a bs).filter (fun x => decide (lo ≤ x.1)) = cellsFrom (max a lo) (bs.drop (lo - a).toNat)
  | [], a => by simp [cellsFrom]
  | c :: cs, a => by
    rw [cellsFrom]
    by_cases h : lo ≤ a
    · rw [List.filter_cons_of_pos (by simp [h]), cellsFrom_ge lo cs (a + 1)]
      rw [show (lo - a).toNat = 0 by omega, show (lo - (a + 1)).toNat = 0 by omega, show max (a + 1) lo = a + 1 by omega, show max a lo = a by omega]
      rfl
    · rw [List.filter_cons_of_neg (by simp; omega), cellsFrom_ge lo cs (a + 1)]
      rw [show (lo - a).toNat = (lo - (a + 1)).toNat + 1 by omega, show max (a + 1) lo = max a lo by omega]
      rfl
theorem cellsFrom_lt (hi : Int) : ∀ (bs : List UInt8) (a : Int), (cellsFrom a bs).filter (fun x => decide (x.1 < hi)) = cellsFrom a (bs.take (hi - a).toNat)
  | [], a => by simp [cellsFrom]
  | c :: cs, a => by
    rw [cellsFrom]
    by_cases h : a < hi
    · rw [List.filter_cons_of_pos (by simp [h]), cellsFrom_lt hi cs (a + 1)]
      rw [show (hi - a).toNat = (hi - (a + 1)).toNat + 1 by omega]
      rfl
    · rw [List.filter_cons_of_neg (by simp; omega), cellsFrom_lt hi cs (a + 1)]
      rw [show (hi - a).toNat = 0 by omega, show (hi - (a + 1)).toNat = 0 by omega]
      rfl
def inR (f t : Int) (x : Int × UInt8) : Bool := decide (f ≤ x.1) && decide (x.1 < t)
theorem cellsFrom_range (f t a : Int) (bs : List UInt8) : (cellsFrom a bs).filter (inR f t) = cellsFrom (max a f) ((bs.drop (f - a).toNat).take (t - max a f).toNat) := by
  have e : inR f t = fun x => (fun y : Int × UInt8 => decide (y.1 < t)) x && (fun y : Int × UInt8 => decide (f ≤ y.1)) x := by
    funext x; unfold inR; rw [Bool.and_comm]
  rw [e, ← List.filter_filter, cellsFrom_ge, cellsFrom_lt]
theorem take_ge {α : Type} (l : List α) {m n : Nat} (hm : l.length ≤ m) (hn : l.length ≤ n) : l.take m = l.take n := by
  rw [List.take_of_length_le hm, List.take_of_length_le hn]
theorem cont_cons (p : CP) (ps : List CP) : cont (p :: ps) = (p.at_, p.bs) :: cont ps := rfl
theorem flat_partL (f t : Int) : ∀ (ps : List CP), (∀ p ∈ ps, p.bs.length = p.len) → flat (cont (partL ps f t)) = (flat (cont ps)).filter (inR f t)
  | [], _ => rfl
  | p :: ps, h => by
    have ih := flat_partL f t ps (fun q hq => h q (List.mem_cons_of_mem _ hq))
    have hl := h p (by simp)
    rw [cont_cons, flat_cons, List.filter_append, ← ih, cellsFrom_range]
    dsimp only
    unfold partL
    rw [List.filterMap_cons]
    by_cases hlt : max p.at_ f < min (p.at_ + (p.len : Int)) t
    · rw [if_pos hlt]
      dsimp only
      rw [cont_cons, flat_cons]
      congr 1
      simp only [CP.cut]
      rw [show (max p.at_ f - p.at_).toNat = (f - p.at_).toNat by omega]
      congr 1
      by_cases ht : t ≤ p.at_ + (p.len : Int)
      · congr 1; omega
      · refine take_ge _ ?_ ?_ <;> rw [List.length_drop, hl] <;> omega
    · rw [if_neg hlt]
      dsimp only
      have : (p.bs.drop (f - p.at_).toNat).take (t - max p.at_ f).toNat = [] := by
        rw [List.take_eq_nil_iff, List.drop_eq_nil_iff, hl]
        omega
      rw [this]
      rfl

/-- Pieces in memory, in order. -/
theorem asc_of_row {lo : Int} : ∀ (ps : List CP), (∀ p ∈ ps, p.bs.length = p.len) → (cont ps).Pairwise (fun p q => p.1 + (p.2.length : Int) ≤ q.1) → (∀ p ∈ ps, lo ≤ p.at_) → Asc lo ps
  | [], _, _, _ => trivial
  | p :: ps, hl, h, hb => by
    rw [cont_cons, List.pairwise_cons] at h
    refine ⟨hb p (by simp), asc_of_row ps (fun q hq => hl q (List.mem_cons_of_mem _ hq)) h.2 fun q hq => ?_⟩
    have := h.1 (q.at_, q.bs) (List.mem_map.2 ⟨q, hq, rfl⟩)
    rw [← hl p (by simp)]
    exact this
theorem cont_partL_row {ps : List CP} (hl : ∀ p ∈ ps, p.bs.length = p.len) (h : (cont ps).Pairwise (fun p q => p.1 + (p.2.length : Int) ≤ q.1)) (f t : Int) : Row (cont (partL ps f t)) := by
  refine ⟨?_, ?_⟩
  · induction ps with
    | nil => exact List.Pairwise.nil
    | cons p ps ih =>
      rw [cont_cons, List.pairwise_cons] at h
      have ih := ih (fun q hq => hl q (List.mem_cons_of_mem _ hq)) h.2
      have hlp := hl p (by simp)
      unfold partL at ih ⊢
      rw [List.filterMap_cons]
      by_cases hlt : max p.at_ f < min (p.at_ + (p.len : Int)) t
      · rw [if_pos hlt]
        dsimp only
        rw [cont_cons, List.pairwise_cons]
        refine ⟨?_, ih⟩
        intro x hx
        obtain ⟨y, hy, rfl⟩ := List.mem_map.1 hx
        obtain ⟨q, hq, hq2, rfl⟩ := partL_mem (f := f) (t := t) hy
        have h1 := h.1 (q.at_, q.bs) (List.mem_map.2 ⟨q, hq, rfl⟩)
        simp only [CP.cut, List.length_take, List.length_drop] at h1 ⊢
        omega
      · rw [if_neg hlt]; exact ih
  · intro x hx
    obtain ⟨y, hy, rfl⟩ := List.mem_map.1 hx
    obtain ⟨q, hq, hq2, rfl⟩ := partL_mem hy
    intro e
    have e2 := congrArg List.length e
    have := hl q hq
    simp only [CP.cut, List.length_take, List.length_drop, List.length_nil] at e2
    omega
/-- The cells behind a write. -/
theorem flat_wrote {ps : List CP} (hl : ∀ p ∈ ps, p.bs.length = p.len) (at_ : Int) (b : List UInt8) (hi : ∀ p ∈ ps, 0 ≤ p.at_ ∧ p.at_ + (p.len : Int) ≤ 1099511627776) :
    flat (mergeV (cont (partL ps 0 at_) ++ [(at_, b)] ++ cont (partL ps (at_ + b.length) 1099511627776))) =
      (flat (cont ps)).filter (fun x => decide (x.1 < at_)) ++ cellsFrom at_ b ++ (flat (cont ps)).filter (fun x => decide (at_ + (b.length : Int) ≤ x.1)) := by
  rw [flat_mergeV, flat_append, flat_append, flat_one, flat_partL 0 at_ ps hl, flat_partL _ _ ps hl]
  have hb : ∀ x ∈ flat (cont ps), 0 ≤ x.1 ∧ x.1 < 1099511627776 := by
    intro x hx
    obtain ⟨p, hp, hx⟩ := flat_mem hx
    obtain ⟨q, hq, rfl⟩ := List.mem_map.1 hp
    have h1 := cellsFrom_bounds hx
    have h2 := hi q hq
    have h3 := hl q hq
    dsimp only at h1
    omega
  congr 1
  · congr 1
    refine List.filter_congr fun x hx => ?_
    have := hb x hx
    unfold inR
    simp [this.1]
  · refine List.filter_congr fun x hx => ?_
    have := hb x hx
    unfold inR
    simp [this.2]
theorem row_wrote {ps : List CP} (hl : ∀ p ∈ ps, p.bs.length = p.len) (h : (cont ps).Pairwise (fun p q => p.1 + (p.2.length : Int) ≤ q.1)) (at_ : Int) (b : List UInt8) (hb : b ≠ []) :
    Sep (mergeV (cont (partL ps 0 at_) ++ [(at_, b)] ++ cont (partL ps (at_ + b.length) 1099511627776))) := by
  obtain ⟨a1, a2⟩ := cont_partL_row hl h 0 at_
  obtain ⟨b1, b2⟩ := cont_partL_row hl h (at_ + b.length) 1099511627776
  have e1 : ∀ x ∈ cont (partL ps 0 at_), x.1 + (x.2.length : Int) ≤ at_ := by
    intro x hx
    obtain ⟨y, hy, rfl⟩ := List.mem_map.1 hx
    obtain ⟨q, hq, hq2, rfl⟩ := partL_mem hy
    simp only [CP.cut, List.length_take, List.length_drop]
    omega
  have e2 : ∀ x ∈ cont (partL ps (at_ + b.length) 1099511627776), at_ + (b.length : Int) ≤ x.1 := by
    intro x hx
    obtain ⟨y, hy, rfl⟩ := List.mem_map.1 hx
    obtain ⟨q, hq, hq2, rfl⟩ := partL_mem hy
    simp only [CP.cut]
    omega
  refine sep_mergeV ⟨?_, ?_⟩
  · rw [List.pairwise_append, List.pairwise_append]
    refine ⟨⟨a1, List.pairwise_singleton _ _, fun x hx y hy => ?_⟩, b1, fun x hx y hy => ?_⟩
    · rw [List.mem_singleton.1 hy]; exact e1 x hx
    · have := e2 y hy
      rcases List.mem_append.1 hx with hx | hx
      · have := e1 x hx; omega
      · rw [List.mem_singleton.1 hx]; exact this
  · intro x hx
    rcases List.mem_append.1 hx with hx | hx
    · rcases List.mem_append.1 hx with hx | hx
      · exact a2 x hx
      · rw [List.mem_singleton.1 hx]; exact hb
    · exact b2 x hx

/-! ### what fits -/
/-- From a place on: how many places, up to n, have something or take one of the room; how many of these are new. -/
def greedy (has : Int → Bool) : Nat → Int → Nat → Nat × Nat
  | 0, _, _ => (0, 0)
  | n + 1, pos, room =>
    if has pos then ((greedy has n (pos + 1) room).1 + 1, (greedy has n (pos + 1) room).2)
    else if room = 0 then (0, 0) else ((greedy has n (pos + 1) (room - 1)).1 + 1, (greedy has n (pos + 1) (room - 1)).2 + 1)
theorem greedy_le (has : Int → Bool) : ∀ (n : Nat) (pos : Int) (room : Nat), (greedy has n pos room).1 ≤ n ∧ (greedy has n pos room).2 ≤ room ∧ (greedy has n pos room).2 ≤ (greedy has n pos room).1
  | 0, _, _ => ⟨Nat.le_refl _, Nat.zero_le _, Nat.le_refl _⟩
  | n + 1, pos, room => by
    unfold greedy
    split
    · obtain ⟨h1, h2, h3⟩ := greedy_le has n (pos + 1) room
      dsimp only
      omega
    · split
      · exact ⟨Nat.zero_le _, Nat.zero_le _, Nat.le_refl _⟩
      · obtain ⟨h1, h2, h3⟩ := greedy_le has n (pos + 1) (room - 1)
        dsimp only
        omega
theorem greedy_congr {has has' : Int → Bool} : ∀ (n : Nat) (pos : Int) (room : Nat), (∀ i, pos ≤ i → i < pos + (n : Int) → has i = has' i) → greedy has n pos room = greedy has' n pos room
  | 0, _, _, _ => rfl
  | n + 1, pos, room, h => by
    have e := greedy_congr (has := has) (has' := has') n (pos + 1)
    unfold greedy
    rw [h pos (by omega) (by omega), e room (fun i h1 h2 => h i (by omega) (by omega)), e (room - 1) (fun i h1 h2 => h i (by omega) (by omega))]
theorem greedy_yes {has : Int → Bool} {n : Nat} {room : Nat} : ∀ (g : Nat) (pos : Int), (∀ i, pos ≤ i → i < pos + (g : Int) → has i = true) →
    greedy has (g + n) pos room = (g + (greedy has n (pos + g) room).1, (greedy has n (pos + g) room).2)
  | 0, pos, _ => by simp
  | g + 1, pos, h => by
    rw [show g + 1 + n = g + n + 1 by omega]
    rw [greedy, if_pos (h pos (by omega) (by omega)), greedy_yes g (pos + 1) (fun i h1 h2 => h i (by omega) (by omega))]
    rw [show pos + 1 + (g : Int) = pos + ((g + 1 : Nat) : Int) by omega]
    dsimp only
    congr 1
    omega
theorem greedy_no {has : Int → Bool} {n : Nat} : ∀ (g : Nat) (pos : Int) (room : Nat), (∀ i, pos ≤ i → i < pos + (g : Int) → has i = false) →
    greedy has (g + n) pos room = if g ≤ room then (g + (greedy has n (pos + g) (room - g)).1, g + (greedy has n (pos + g) (room - g)).2) else (room, room)
  | 0, pos, room, _ => by simp
  | g + 1, pos, room, h => by
    rw [show g + 1 + n = g + n + 1 by omega]
    rw [greedy, if_neg (by rw [h pos (by omega) (by omega)]; simp), greedy_no g (pos + 1) (room - 1) (fun i h1 h2 => h i (by omega) (by omega))]
    by_cases h0 : room = 0
    · rw [if_pos h0, if_neg (by omega), h0]
    · rw [if_neg h0]
      by_cases hg : g + 1 ≤ room
      · rw [if_pos hg, if_pos (by omega)]
        rw [show pos + 1 + (g : Int) = pos + ((g + 1 : Nat) : Int) by omega, show room - 1 - g = room - (g + 1) by omega]
        dsimp only
        congr 1 <;> omega
      · rw [if_neg hg, if_neg (by omega)]
        dsimp only
        congr 1 <;> omega
/-- How many of k places have something. -/
def cnt (has : Int → Bool) : Nat → Int → Nat
  | 0, _ => 0
  | k + 1, pos => (if has pos then 1 else 0) + cnt has k (pos + 1)
theorem greedy_cnt (has : Int → Bool) : ∀ (n : Nat) (pos : Int) (room : Nat), (greedy has n pos room).1 = (greedy has n pos room).2 + cnt has (greedy has n pos room).1 pos
  | 0, _, _ => rfl
  | n + 1, pos, room => by
    unfold greedy
    split
    · rename_i h
      have := greedy_cnt has n (pos + 1) room
      dsimp only
      rw [cnt, if_pos h]
      omega
    · rename_i h
      split
      · rfl
      · have := greedy_cnt has n (pos + 1) (room - 1)
        dsimp only
        rw [cnt, if_neg h]
        omega
def hasF (l : List (Int × UInt8)) (i : Int) : Bool := l.any fun x => x.1 == i
theorem hasF_append (a b : List (Int × UInt8)) (i : Int) : hasF (a ++ b) i = (hasF a i || hasF b i) := by simp [hasF]
theorem hasF_true {l : List (Int × UInt8)} {i : Int} : hasF l i = true ↔ ∃ c, (i, c) ∈ l := by
  unfold hasF
  rw [List.any_eq_true]
  constructor
  · rintro ⟨⟨j, c⟩, hm, he⟩
    obtain rfl : j = i := by simpa using he
    exact ⟨c, hm⟩
  · rintro ⟨c, hm⟩
    exact ⟨_, hm, by simp⟩
theorem hasF_false {l : List (Int × UInt8)} {i : Int} (h : ∀ x ∈ l, x.1 ≠ i) : hasF l i = false := by
  unfold hasF
  rw [List.any_eq_false]
  intro x hx
  simpa using h x hx
theorem hasF_cells (bs : List UInt8) (a i : Int) : hasF (cellsFrom a bs) i = decide (a ≤ i ∧ i < a + (bs.length : Int)) := by
  by_cases h : a ≤ i ∧ i < a + (bs.length : Int)
  · rw [decide_eq_true h, hasF_true]
    have hlt : (i - a).toNat < bs.length := by omega
    exact ⟨bs[(i - a).toNat], (cellsFrom_mem bs a i _).2 ⟨h.1, List.getElem?_eq_getElem hlt⟩⟩
  · rw [decide_eq_false h]
    refine hasF_false fun x hx e => h ?_
    have := cellsFrom_bounds hx
    omega
theorem hasF_filter (l : List (Int × UInt8)) (f t i : Int) (h1 : f ≤ i) (h2 : i < t) : hasF (l.filter (inR f t)) i = hasF l i := by
  rw [Bool.eq_iff_iff, hasF_true, hasF_true]
  constructor
  · rintro ⟨c, hc⟩; exact ⟨c, (List.mem_filter.1 hc).1⟩
  · rintro ⟨c, hc⟩; exact ⟨c, List.mem_filter.2 ⟨hc, by simp [inR, h1, h2]⟩⟩

theorem fitsGo_greedy {at_ n room : Int} : ∀ (qs : List CP) (pos more : Int), (∀ p ∈ qs, p.bs.length = p.len) → Asc pos qs → EndsBy (at_ + n) qs → at_ ≤ pos → pos ≤ at_ + n → 0 ≤ more → more ≤ room →
    fitsGo at_ n room qs pos more = (pos - at_ + (greedy (hasF (flat (cont qs))) (at_ + n - pos).toNat pos (room - more).toNat).1, more + (greedy (hasF (flat (cont qs))) (at_ + n - pos).toNat pos (room - more).toNat).2)
  | [], pos, more, _, _, _, h1, h2, h3, h4 => by
    rw [fitsGo_nil]
    have := greedy_no (has := hasF (flat (cont []))) (n := 0) (at_ + n - pos).toNat pos (room - more).toNat (fun i _ _ => rfl)
    rw [Nat.add_zero] at this
    rw [this]
    split
    · simp only [greedy]
      congr 1 <;> omega
    · dsimp only
      congr 1 <;> omega
  | p :: ps, pos, more, hl, ha, he, h1, h2, h3, h4 => by
    have hlp := hl p (by simp)
    have hep := he p (by simp)
    obtain ⟨ha1, ha2⟩ := ha
    have hps : ∀ x ∈ flat (cont ps), p.at_ + (p.len : Int) ≤ x.1 := by
      have : ∀ (qs : List CP) (lo : Int), Asc lo qs → ∀ x ∈ flat (cont qs), lo ≤ x.1 := by
        intro qs
        induction qs with
        | nil => intro lo _ x hx; cases hx
        | cons q qs ih =>
          rintro lo ⟨g1, g2⟩ x hx
          rw [cont_cons, flat_cons] at hx
          rcases List.mem_append.1 hx with hx | hx
          · have := cellsFrom_bounds hx
            dsimp only at this
            omega
          · have := ih _ g2 x hx
            omega
      exact this ps _ ha2
    have hno : ∀ i, pos ≤ i → i < pos + ((p.at_ - pos).toNat : Int) → hasF (flat (cont (p :: ps))) i = false := by
      intro i hi1 hi2
      rw [cont_cons, flat_cons, hasF_append, hasF_cells, decide_eq_false (by omega), Bool.false_or]
      exact hasF_false fun x hx e => by have := hps x hx; omega
    have hyes : ∀ i, p.at_ ≤ i → i < p.at_ + (p.len : Int) → hasF (flat (cont (p :: ps))) i = true := by
      intro i hi1 hi2
      rw [cont_cons, flat_cons, hasF_append, hasF_cells]
      dsimp only
      rw [decide_eq_true (by omega)]
      rfl
    have hM : (at_ + n - pos).toNat = (p.at_ - pos).toNat + (p.len + (at_ + n - (p.at_ + (p.len : Int))).toNat) := by omega
    rw [hM, greedy_no _ _ _ hno]
    by_cases hg : room < more + (p.at_ - pos)
    · rw [fitsGo_stop hg, if_neg (by omega)]
      dsimp only
      congr 1 <;> omega
    · rw [fitsGo_next hg, if_pos (by omega)]
      rw [show pos + ((p.at_ - pos).toNat : Int) = p.at_ by omega, greedy_yes p.len p.at_ hyes]
      rw [fitsGo_greedy ps (p.at_ + (p.len : Int)) (more + (p.at_ - pos)) (fun q hq => hl q (List.mem_cons_of_mem _ hq)) ha2 (fun q hq => he q (List.mem_cons_of_mem _ hq)) (by omega) (by omega) (by omega) (by omega)]
      rw [greedy_congr (has := hasF (flat (cont (p :: ps)))) (has' := hasF (flat (cont ps))) _ (p.at_ + (p.len : Int)) _ (fun i hi1 hi2 => by
        rw [cont_cons, flat_cons, hasF_append, hasF_cells]
        dsimp only
        rw [decide_eq_false (by omega), Bool.false_or])]
      rw [show (room - (more + (p.at_ - pos))).toNat = (room - more).toNat - (p.at_ - pos).toNat by omega]
      dsimp only
      congr 1 <;> omega
/-- fits is what a walk byte by byte finds. -/
theorem fits_greedy {ps : List CP} (hl : ∀ p ∈ ps, p.bs.length = p.len) {lo : Int} (ha : Asc lo ps) (at_ : Int) (n room : Nat) :
    fitsL ps at_ n room = (((greedy (hasF (flat (cont ps))) n at_ room).1 : Int), ((greedy (hasF (flat (cont ps))) n at_ room).2 : Int)) := by
  unfold fitsL
  have hl2 : ∀ q ∈ partL ps at_ (at_ + (n : Int)), q.bs.length = q.len := by
    intro q hq
    obtain ⟨p, hp, hlt, rfl⟩ := partL_mem hq
    have := hl p hp
    simp only [CP.cut, List.length_take, List.length_drop]
    omega
  rw [fitsGo_greedy (partL ps at_ (at_ + (n : Int))) at_ 0 hl2 ((ha.part (f := at_) (t := at_ + (n : Int))).mono (by omega)) (EndsBy.part ps at_ (at_ + (n : Int))) (by omega) (by omega) (by omega) (by omega)]
  rw [show (at_ + (n : Int) - at_).toNat = n by omega, show ((room : Int) - 0).toNat = room by omega]
  rw [greedy_congr (has := hasF (flat (cont (partL ps at_ (at_ + (n : Int)))))) (has' := hasF (flat (cont ps))) n at_ room (fun i hi1 hi2 => by
    rw [flat_partL _ _ ps hl, hasF_filter _ _ _ _ hi1 hi2])]
  congr 1 <;> omega

/-! ### counting -/
theorem flat_nodup {l : List (Int × List UInt8)} (h : Row l) : (flat l).Pairwise fun x y => x.1 < y.1 := by
  have one : ∀ (bs : List UInt8) (a : Int), (cellsFrom a bs).Pairwise fun x y => x.1 < y.1 := by
    intro bs
    induction bs with
    | nil => intro a; exact List.Pairwise.nil
    | cons c cs ih =>
      intro a
      rw [cellsFrom, List.pairwise_cons]
      exact ⟨fun x hx => by have := cellsFrom_bounds hx; dsimp only; omega, ih _⟩
  induction l with
  | nil => exact List.Pairwise.nil
  | cons p l ih =>
    obtain ⟨ha, hs⟩ := h
    rw [List.pairwise_cons] at ha
    rw [flat_cons, List.pairwise_append]
    refine ⟨one _ _, ih ⟨ha.2, fun q hq => hs q (List.mem_cons_of_mem _ hq)⟩, fun x hx y hy => ?_⟩
    have h1 := cellsFrom_bounds hx
    obtain ⟨q, hq, hy⟩ := flat_mem hy
    have h2 := cellsFrom_bounds hy
    have h3 := ha.1 q hq
    omega
theorem filter_split (l : List (Int × UInt8)) (at_ : Int) (k : Nat) (hn : l.Pairwise fun x y => x.1 < y.1) :
    (l.filter (fun x => decide (x.1 < at_))).length + cnt (hasF l) k at_ + (l.filter (fun x => decide (at_ + (k : Int) ≤ x.1))).length = l.length := by
  have one : ∀ (l : List (Int × UInt8)) (a : Int), (l.Pairwise fun x y => x.1 < y.1) → (l.filter fun x => decide (a ≤ x.1)).length = (if hasF l a then 1 else 0) + (l.filter fun x => decide (a + 1 ≤ x.1)).length := by
    intro l
    induction l with
    | nil => intro a _; rfl
    | cons p l ih =>
      intro a hp
      rw [List.pairwise_cons] at hp
      have ih := ih a hp.2
      by_cases h1 : p.1 < a
      · rw [List.filter_cons_of_neg (by simp; omega), List.filter_cons_of_neg (by simp; omega), ih]
        have : hasF (p :: l) a = hasF l a := by
          unfold hasF
          rw [List.any_cons, show (p.1 == a) = false by simp; omega, Bool.false_or]
        rw [this]
      · by_cases h2 : p.1 = a
        · rw [List.filter_cons_of_pos (by simp; omega), List.filter_cons_of_neg (by simp; omega)]
          have e1 : hasF (p :: l) a = true := by simp [hasF, h2]
          have e2 : hasF l a = false := hasF_false fun x hx e => by have := hp.1 x hx; omega
          rw [e1, if_pos rfl, List.length_cons, ih, e2]
          simp
          omega
        · rw [List.filter_cons_of_pos (by simp; omega), List.filter_cons_of_pos (by simp; omega), List.length_cons, List.length_cons, ih]
          have : hasF (p :: l) a = hasF l a := by
            unfold hasF
            rw [List.any_cons, show (p.1 == a) = false by simp; omega, Bool.false_or]
          rw [this]
          omega
  have two : ∀ (k : Nat) (a : Int), (l.filter fun x => decide (a ≤ x.1)).length = cnt (hasF l) k a + (l.filter fun x => decide (a + (k : Int) ≤ x.1)).length := by
    intro k
    induction k with
    | zero => intro a; simp [cnt]
    | succ k ih =>
      intro a
      rw [one l a hn, ih (a + 1), cnt, show a + 1 + (k : Int) = a + ((k + 1 : Nat) : Int) by omega]
      omega
  have three : (l.filter (fun x => decide (x.1 < at_))).length + (l.filter fun x => decide (at_ ≤ x.1)).length = l.length := by
    clear one two hn
    induction l with
    | nil => rfl
    | cons p l ih =>
      by_cases h : p.1 < at_
      · rw [List.filter_cons_of_pos (by simp [h]), List.filter_cons_of_neg (by simp; omega), List.length_cons, List.length_cons]
        omega
      · rw [List.filter_cons_of_neg (by simp; omega), List.filter_cons_of_pos (by simp; omega), List.length_cons, List.length_cons]
        omega
  have := two k at_
  omega
end Go.Proofs.Ytccfimgpbmkpiaa
