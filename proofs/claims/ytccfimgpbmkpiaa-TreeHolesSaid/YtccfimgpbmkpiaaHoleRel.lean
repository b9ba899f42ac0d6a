/- TreeHoles: what holds at its loops' heads. No conditions. -/
import Derived.Test.YtccfimgpbmkpiaaHole
import Derived.Test.YtccfimgpbmkpiaaOps
import Derived.Test.YtccfimgpbmkpiaaLeft
namespace Go.Proofs.Ytccfimgpbmkpiaa
set_option linter.unusedVariables false
set_option linter.unusedSimpArgs false
set_option maxRecDepth 100000
open Go.RowKit Go.MapKept

def bools (l : List Bool) : Array Value := (l.map Value.bool).toArray
def bytesA (l : List UInt8) : Array Value := (bvals l).toArray
theorem zeroB : Try.zeroCells44 = bools (List.replicate 1100 false) := by kernel_rfl
theorem zeroC : Try.zeroCells45 = bytesA (List.replicate 1100 0) := by kernel_rfl
theorem bools_cell {w : World} {b : Nat} {t : TypeId} {l : List Bool} (h : Blk w b t (bools l)) {k : Nat} {v : Bool} (hk : l[k]? = some v) : w.cell? ⟨b, k, none⟩ = some (.bool v) := by
  rw [h.cell]; simp [bools, hk]
theorem bytesA_cell {w : World} {b : Nat} {t : TypeId} {l : List UInt8} (h : Blk w b t (bytesA l)) {k : Nat} {v : UInt8} (hk : l[k]? = some v) : w.cell? ⟨b, k, none⟩ = some (.int .u8 (v.toNat : Int)) := by
  rw [h.cell]; simp [bytesA, bvals, hk]
theorem bools_set {w : World} {b : Nat} {t : TypeId} {l : List Bool} (h : Blk w b t (bools l)) (k : Nat) (v : Bool) : Blk (w.setCell ⟨b, k, none⟩ (.bool v)) b t (bools (l.set k v)) := by
  have := h.set_ k (.bool v)
  have e : (bools l).setIfInBounds k (.bool v) = bools (l.set k v) := by simp [bools, List.map_set]
  rwa [e] at this
theorem bytesA_set {w : World} {b : Nat} {t : TypeId} {l : List UInt8} (h : Blk w b t (bytesA l)) (k : Nat) (v : UInt8) : Blk (w.setCell ⟨b, k, none⟩ (.int .u8 (v.toNat : Int))) b t (bytesA (l.set k v)) := by
  have := h.set_ k (.int .u8 (v.toNat : Int))
  have e : (bytesA l).setIfInBounds k (.int .u8 (v.toNat : Int)) = bytesA (l.set k v) := by simp [bytesA, bvals, List.map_set]
  rwa [e] at this
/-- A tree beside a store into a block of another type. -/
theorem FSAt.setFar {w : World} {A : FSA} (h : FSAt w A) {b : Nat} {t : TypeId} {cs : Array Value} (hB : Blk w b t cs) (k1 : 75 ≠ t) (k2 : 72 ≠ t) (k3 : ¬ isData t) (i : Nat) (u : Value) : FSAt (w.setCell ⟨b, i, none⟩ u) A := by
  have hno : ¬ A.owns b := h.not_own b cs t (0, 0) k1 k2 hB
  refine h.keep (fun x hx => Below.heap_setCell w ⟨b, i, none⟩ u x (fun e => hno ((show x = b from e) ▸ hx))) (fun g cs' t' fr ht hh => (Below.heap_setCell w ⟨b, i, none⟩ u g (fun e => ?_)).trans hh)
  have e' : g = b := e
  subst e'
  unfold Blk at hB
  rw [hB] at hh
  injection hh with hh
  injection hh with _ e2 _
  subst e2
  exact k3 ht
theorem arr_far : (75 ≠ 44 ∧ 72 ≠ 44 ∧ ¬ isData 44) ∧ (75 ≠ 45 ∧ 72 ≠ 45 ∧ ¬ isData 45) := by
  refine ⟨⟨by decide, by decide, ?_⟩, ⟨by decide, by decide, ?_⟩⟩
  · rintro (h | h)
    · exact absurd (show 44 = 5 from h) (by decide)
    · cases h
  · rintro (h | h)
    · exact absurd (show 45 = 5 from h) (by decide)
    · cases h
theorem arr_frm {w w' : World} {A : FSA} (h : FSAt w A) {b : Nat} {t : TypeId} {cs : Array Value} (hB : Blk w b t cs) (k1 : 75 ≠ t) (k2 : 72 ≠ t) (hf : Frm A.owns w w') : Blk w' b t cs := hB.frm hf (h.not_own b cs t (0, 0) k1 k2 hB)

structure HolesRel (w : World) (fb q bi : Nat) (sz us i : Value) (wr : World) (k : Nat) (A : FSA) (S : Nat) (l : List (Int × UInt8)) (c : Int) (isL : List Bool) (cL : List UInt8) : Prop where
  sz : sz = .int .i64 S
  us : us = .int .i64 l.length
  i : i = .int .i64 k
  le : k ≤ 40
  fs : FSAt wr A
  fb : A.fb = fb
  hole : HoleSt A q S l c w.heap.size
  sle : S ≤ 1100
  c0 : 0 ≤ c
  c1 : c ≤ 1 + k
  marks : Marks l isL cL
  isB : Blk wr bi 44 (bools isL)
  csB : Blk wr (bi + 1) 45 (bytesA cL)
  below : Below w.heap.size w wr

theorem marks_start : Marks [] (List.replicate 1100 false) (List.replicate 1100 0) := by
  refine ⟨by simp, by simp, fun k hk => ?_, fun k c h => absurd h (by simp)⟩
  rw [List.getElem?_replicate, if_pos hk]; rfl

theorem holes_start {w w2 : World} {fb q bi : Nat} {A1 : FSA} (h : FSAt w2 A1) (hH : HoleSt A1 q 0 [] 1 w.heap.size) (hb : Below w.heap.size w w2) (hfb : A1.fb = fb) (hbi : bi = w2.heap.size) :
    HolesRel w fb q bi (.int .i64 (0 : Nat)) (.int .i64 (0 : Nat)) (.int .i64 (0 : Nat)) ((w2.alloc (.cells Try.zeroCells44 44)).alloc (.cells Try.zeroCells45 45)) 0 A1 0 [] 1 (List.replicate 1100 false) (List.replicate 1100 0) := by
  subst hbi
  rw [zeroB, zeroC]
  have h2 := Blk.new (w2.alloc (.cells (bools (List.replicate 1100 false)) 44)) 45 (bytesA (List.replicate 1100 0))
  rw [World.size_alloc] at h2
  exact ⟨rfl, rfl, rfl, by omega, (h.alloc _).alloc _, hfb, hH, by omega, by omega, by omega, marks_start, (Blk.new w2 44 _).alloc _, h2, (hb.alloc hb.size _).alloc (by have := hb.size; simp; omega) _⟩

/-- The loop that clears. -/
structure CutRel (w : World) (fb q bi a : Nat) (us i : Value) (wr : World) (k u : Nat) (A : FSA) (l : List (Int × UInt8)) (c : Int) (isL : List Bool) (cL : List UInt8) : Prop where
  us : us = .int .i64 u
  i : i = .int .i64 k
  le : a ≤ k
  ge : k ≤ 1100
  cnt : u + cnt (hasF l) (k - a) a = l.length
  fs : FSAt wr A
  fb : A.fb = fb
  hole : HoleSt A q a (l.filter fun x => decide (x.1 < (a : Int))) c w.heap.size
  clr : Cleared l a k isL
  isB : Blk wr bi 44 (bools isL)
  csB : Blk wr (bi + 1) 45 (bytesA cL)
  below : Below w.heap.size w wr
theorem CutRel.step {w : World} {fb q bi a : Nat} {us i : Value} {wr : World} {k u : Nat} {A : FSA} {l : List (Int × UInt8)} {c : Int} {isL : List Bool} {cL : List UInt8} (h : CutRel w fb q bi a us i wr k u A l c isL cL) (hk : k < 1100) (hbi : w.heap.size ≤ bi) {u' : Nat} (hu : u' + (if hasF l k then 1 else 0) = u) {us' i' : Value} (hus : us' = .int .i64 u') (hi' : i' = .int .i64 ((k : Int) + 1)) :
    CutRel w fb q bi a us' i' (wr.setCell ⟨bi, k, none⟩ (.bool false)) (k + 1) u' A l c (isL.set k false) cL := by
  have hle := h.le
  refine ⟨hus, by rw [hi']; go_num, by omega, by omega, ?_, h.fs.setFar h.isB arr_far.1.1 arr_far.1.2.1 arr_far.1.2.2 k _, h.fb, h.hole, h.clr.step hle hk, bools_set h.isB k false, h.csB.far (by show bi + 1 ≠ bi; omega) _, h.below.setCell hbi _⟩
  rw [show k + 1 - a = (k - a) + 1 by omega, cnt_snoc]
  rw [show (a : Int) + ((k - a : Nat) : Int) = (k : Int) by omega]
  have := h.cnt
  omega
theorem cnt_mono (has : Int → Bool) {m : Nat} (a : Int) : ∀ {k : Nat}, k ≤ m → cnt has k a ≤ cnt has m a := by
  induction m with
  | zero => intro k h; obtain rfl : k = 0 := by omega
            exact Nat.le_refl _
  | succ m ih =>
    intro k h
    by_cases e : k = m + 1
    · subst e; exact Nat.le_refl _
    · have := ih (k := k) (by omega)
      rw [cnt_snoc]; omega
theorem CutRel.pos {w : World} {fb q bi a : Nat} {us i : Value} {wr : World} {k u : Nat} {A : FSA} {l : List (Int × UInt8)} {c : Int} {isL : List Bool} {cL : List UInt8} (h : CutRel w fb q bi a us i wr k u A l c isL cL) (hk : k < 1100) (hn : l.Pairwise fun x y => x.1 < y.1) (hb : ∀ x ∈ l, 0 ≤ x.1 ∧ x.1 < 1100) (hh : hasF l k = true) : 1 ≤ u := by
  have hle := h.le
  have h1 := cut_count hn hb (show a ≤ 1100 by omega)
  have h2 := h.cnt
  have h3 := cnt_mono (hasF l) (a : Int) (show k - a + 1 ≤ 1100 - a by omega)
  rw [cnt_snoc, show (a : Int) + ((k - a : Nat) : Int) = (k : Int) by omega, hh, if_pos rfl] at h3
  omega
theorem CutRel.done {w : World} {fb q bi a : Nat} {us i : Value} {wr : World} {u : Nat} {A : FSA} {l : List (Int × UInt8)} {c : Int} {isL : List Bool} {cL : List UInt8} {is0 : List Bool} (h : CutRel w fb q bi a us i wr 1100 u A l c isL cL) (hm : Marks l is0 cL) (hn : l.Pairwise fun x y => x.1 < y.1) (hb : ∀ x ∈ l, 0 ≤ x.1 ∧ x.1 < 1100) {k : Nat} (hk : k < 40) (hc0 : 0 ≤ c) (hc1 : c ≤ 1 + (k : Int) + 1) :
    HolesRel w fb q bi (.int .i64 (a : Int)) (.int .i64 (u : Int)) (.int .i64 ((k : Int) + 1)) wr (k + 1) A a (l.filter fun x => decide (x.1 < (a : Int))) c isL cL := by
  have hu : (l.filter fun x => decide (x.1 < (a : Int))).length = u := by
    have h1 := cut_count hn hb h.le
    have h2 := h.cnt
    omega
  exact ⟨rfl, by rw [hu], by go_num, by omega, h.fs, h.fb, h.hole, h.le, hc0, by omega, h.clr.done hm.cs_ hm.lc, h.isB, h.csB, h.below⟩

/-- The loop that marks. -/
structure PutRel (w : World) (fb q bi a len ob : Nat) (opc : Array Value) (b : List UInt8) (us i : Value) (wr : World) (n m u : Nat) (A : FSA) (S : Nat) (l : List (Int × UInt8)) (c : Int) (cs0 : List UInt8) (isL : List Bool) (cL : List UInt8) : Prop where
  us : us = .int .i64 u
  i : i = .int .i64 n
  um : u = l.length + m
  le : n ≤ len
  room : u ≤ q
  g1 : (greedy (hasF l) len a (q - l.length)).1 = n + (greedy (hasF l) (len - n) ((a + n : Nat) : Int) (q - u)).1
  g2 : (greedy (hasF l) len a (q - l.length)).2 = m + (greedy (hasF l) (len - n) ((a + n : Nat) : Int) (q - u)).2
  fs : FSAt wr A
  fb : A.fb = fb
  hole : HoleSt A q S l c w.heap.size
  put : Put l cs0 a n b isL cL
  isB : Blk wr bi 44 (bools isL)
  csB : Blk wr (bi + 1) 45 (bytesA cL)
  opB : Blk wr ob 47 opc
  below : Below w.heap.size w wr
theorem PutRel.step {w : World} {fb q bi a len ob : Nat} {opc : Array Value} {b : List UInt8} {us i : Value} {wr : World} {n m u : Nat} {A : FSA} {S : Nat} {l : List (Int × UInt8)} {c : Int} {cs0 : List UInt8} {isL : List Bool} {cL : List UInt8}
    (h : PutRel w fb q bi a len ob opc b us i wr n m u A S l c cs0 isL cL) (hn : n < len) (hlen : b.length = len) (ha : a + len ≤ 1100) (hbi : w.heap.size ≤ bi) (hob1 : ob ≠ bi) (hob2 : ob ≠ bi + 1) {m' u' : Nat}
    (hm : (hasF l ((a + n : Nat) : Int) = true ∧ m' = m ∧ u' = u) ∨ (hasF l ((a + n : Nat) : Int) = false ∧ u < q ∧ m' = m + 1 ∧ u' = u + 1)) {us' i' : Value} (hus : us' = .int .i64 (u' : Int)) (hi' : i' = .int .i64 ((n : Int) + 1)) :
    PutRel w fb q bi a len ob opc b us' i' ((wr.setCell ⟨bi, a + n, none⟩ (.bool true)).setCell ⟨bi + 1, a + n, none⟩ (.int .u8 ((b[n]'(by omega)).toNat : Int))) (n + 1) m' u' A S l c cs0 (isL.set (a + n) true) (cL.set (a + n) (b[n]'(by omega))) := by
  have hum := h.um
  have hr := h.room
  have h1 := h.fs.setFar h.isB arr_far.1.1 arr_far.1.2.1 arr_far.1.2.2 (a + n) (.bool true)
  have h2 : Blk (wr.setCell ⟨bi, a + n, none⟩ (.bool true)) (bi + 1) 45 (bytesA cL) := h.csB.far (by show bi + 1 ≠ bi; omega) _
  have e1 : len - n = (len - (n + 1)) + 1 := by omega
  have e2 : ((a + n : Nat) : Int) + 1 = ((a + (n + 1) : Nat) : Int) := by omega
  have hg1 := h.g1
  have hg2 := h.g2
  rw [e1] at hg1 hg2
  refine ⟨hus, by rw [hi']; go_num, ?_, by omega, ?_, ?_, ?_, h1.setFar h2 arr_far.2.1 arr_far.2.2.1 arr_far.2.2.2 _ _, h.fb, h.hole, h.put.step (by omega) (by omega), (bools_set h.isB _ _).far (by show bi ≠ bi + 1; omega) _, bytesA_set h2 _ _, (h.opB.far hob1 _).far hob2 _, (h.below.setCell hbi _).setCell (by show _ ≤ bi + 1; omega) _⟩
  · rcases hm with ⟨_, rfl, rfl⟩ | ⟨_, _, rfl, rfl⟩ <;> omega
  · rcases hm with ⟨_, rfl, rfl⟩ | ⟨_, _, rfl, rfl⟩ <;> omega
  · rcases hm with ⟨hh, rfl, rfl⟩ | ⟨hh, hq, rfl, rfl⟩
    · rw [greedy_step_has hh, e2] at hg1
      dsimp only at hg1
      omega
    · rw [greedy_step_new hh (by omega), e2] at hg1
      rw [show q - (u + 1) = q - u - 1 by omega]
      dsimp only at hg1
      omega
  · rcases hm with ⟨hh, rfl, rfl⟩ | ⟨hh, hq, rfl, rfl⟩
    · rw [greedy_step_has hh, e2] at hg2
      exact hg2
    · rw [greedy_step_new hh (by omega), e2] at hg2
      rw [show q - (u + 1) = q - u - 1 by omega]
      dsimp only at hg2
      omega
/-- Where it ends: all bytes are put, or there is no room for the next one. -/
theorem PutRel.stop {w : World} {fb q bi a len ob : Nat} {opc : Array Value} {b : List UInt8} {us i : Value} {wr : World} {n m u : Nat} {A : FSA} {S : Nat} {l : List (Int × UInt8)} {c : Int} {cs0 : List UInt8} {isL : List Bool} {cL : List UInt8}
    (h : PutRel w fb q bi a len ob opc b us i wr n m u A S l c cs0 isL cL) (hs : n = len ∨ (n < len ∧ hasF l ((a + n : Nat) : Int) = false ∧ q ≤ u)) : (greedy (hasF l) len a (q - l.length)).1 = n ∧ (greedy (hasF l) len a (q - l.length)).2 = m := by
  have hg1 := h.g1
  have hg2 := h.g2
  rcases hs with rfl | ⟨h1, h2, h3⟩
  · rw [show n - n = 0 by omega] at hg1 hg2
    exact ⟨hg1, hg2⟩
  · rw [show len - n = (len - (n + 1)) + 1 by omega, greedy_step_stop h2 (by omega)] at hg1 hg2
    exact ⟨hg1, hg2⟩
theorem Put.zero {l : List (Int × UInt8)} {is0 : List Bool} {cs0 : List UInt8} {a : Nat} {b : List UInt8} {is : List Bool} {cs : List UInt8} (hm : Marks l is0 cs0) (h : Put l cs0 a 0 b is cs) : Marks l is cs := by
  refine ⟨h.li, h.lc, fun k hk => ?_, fun k c hc hk => ?_⟩
  · have : ¬ (a ≤ k ∧ k < a + 0) := by omega
    rw [h.is_ k hk, decide_eq_false this, Bool.or_false]
  · have : ¬ (a ≤ k ∧ k < a + 0) := by omega
    rw [h.cs_ k hk, if_neg this]
    exact hm.cs_ k c hc hk
theorem PutRel.finish {w : World} {fb q bi a len ob : Nat} {opc : Array Value} {b : List UInt8} {us i : Value} {wr : World} {n m u : Nat} {A : FSA} {S : Nat} {l : List (Int × UInt8)} {c : Int} {cs0 : List UInt8} {isL is0 : List Bool} {cL : List UInt8}
    (h : PutRel w fb q bi a len ob opc b us i wr n m u A S l c cs0 isL cL) (hK : (greedy (hasF l) len a (q - l.length)).1 = n) (hM : (greedy (hasF l) len a (q - l.length)).2 = m) (hm : Marks l is0 cs0) (hlen : b.length = len) (ha : a + len ≤ 1100) (hS : S ≤ 1100)
    {w6 : World} {A6 : FSA} {c6 : Int} (h6 : FSAt w6 A6) (hfb6 : A6.fb = fb) (hH6 : HoleSt A6 q (if 0 < n then max S (a + n) else S) (if 0 < n then wroteF l a (b.take n) else l) c6 w.heap.size) (bis : Blk w6 bi 44 (bools isL)) (bcs : Blk w6 (bi + 1) 45 (bytesA cL)) (hb6 : Below w.heap.size w w6)
    {k : Nat} (hk : k < 40) (hc0 : 0 ≤ c6) (hc1 : c6 ≤ 1 + (k : Int) + 1) {sz : Value} (hsz : sz = .int .i64 ((if 0 < n then max S (a + n) else S : Nat) : Int)) :
    ∃ S' l', HolesRel w fb q bi sz (.int .i64 (u : Int)) (.int .i64 ((k : Int) + 1)) w6 (k + 1) A6 S' l' c6 isL cL := by
  have hle := h.le
  have hum := h.um
  have hgc := greedy_cnt (hasF l) len a (q - l.length)
  rw [hK, hM] at hgc
  by_cases hn : 0 < n
  · rw [if_pos hn] at hH6 hsz
    rw [if_pos hn] at hH6
    have hl := wroteF_length h.hole.nodup a (b.take n)
    have hbl : (b.take n).length = n := by rw [List.length_take]; omega
    rw [hbl] at hl
    refine ⟨_, _, hsz, ?_, by go_num, by omega, h6, hfb6, hH6, by omega, hc0, by omega, h.put.done hm (by omega), bis, bcs, hb6⟩
    congr 1
    omega
  · obtain rfl : n = 0 := by omega
    rw [if_neg hn] at hH6 hsz
    rw [if_neg hn] at hH6
    refine ⟨_, _, hsz, ?_, by go_num, by omega, h6, hfb6, hH6, hS, hc0, by omega, h.put.zero hm, bis, bcs, hb6⟩
    congr 1
    omega
theorem PutRel.drew {w : World} {fb q bi a len ob : Nat} {opc : Array Value} {b : List UInt8} {us i : Value} {wr : World} {n m u : Nat} {A : FSA} {S : Nat} {l : List (Int × UInt8)} {c : Int} {cs0 : List UInt8} {isL : List Bool} {cL : List UInt8}
    (h : PutRel w fb q bi a len ob opc b us i wr n m u A S l c cs0 isL cL) : PutRel w fb q bi a len ob opc b us i wr.drew n m u A S l c cs0 isL cL :=
  ⟨h.us, h.i, h.um, h.le, h.room, h.g1, h.g2, h.fs.drew, h.fb, h.hole, h.put, h.isB, h.csB, h.opB, h.below.drew⟩
end Go.Proofs.Ytccfimgpbmkpiaa
