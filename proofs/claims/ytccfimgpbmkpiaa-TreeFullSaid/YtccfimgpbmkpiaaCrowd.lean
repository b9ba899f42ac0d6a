/- TreeFull: many pipes in the root: what Make turns of it. Conditions: at most 999. -/
import Derived.Test.YtccfimgpbmkpiaaNums
import Derived.Test.YtccfimgpbmkpiaaChain
import Derived.Test.YtccfimgpbmkpiaaLinkLaws
namespace Go.Proofs.Ytccfimgpbmkpiaa
set_option linter.unusedVariables false
set_option linter.unusedSimpArgs false
set_option maxRecDepth 100000
open Go.RowKit Go.MapKept

theorem made_links (A : FSA) (dir : Int) (part : ByteArray) (n : ANode) (db nb xb : Nat) (xm : Option Nat) (hf : ∀ p ∈ A.nodes, p.1 < A.next) (k : Int) :
    ((A.made dir part n db nb xb xm).node? k).map (fun r => r.n.links) = if A.next = k then some 1 else (A.node? k).map fun r => r.n.links := by
  unfold FSA.made
  rw [tick_node, updN_node, addNode_node (A := { A with next := A.next + 1 }) _ _ _ (show A.next ∉ A.nodes.map (·.1) from next_new hf)]
  by_cases e : A.next = k
  · rw [if_pos e, if_pos e]
    simp only [Option.map_some, tickR_links]
    split <;> rfl
  · rw [if_neg e, if_neg e]
    show Option.map _ (Option.map _ (Option.map _ (A.node? k))) = _
    cases A.node? k with
    | none => rfl
    | some r =>
      simp only [Option.map_some, Option.some.injEq, tickR_links]
      split <;> rfl

def pipeN : ANode := ⟨7, 0, 0, 0, 0, ⟨#[]⟩, 0, 0, 0, 0, 0⟩
def crowdN (m : Nat) : List (ByteArray × Int) := (List.range m).map fun i => (numS 110 (i + 2), ((i + 2 : Nat) : Int))
theorem crowdN_succ (m : Nat) : crowdN (m + 1) = crowdN m ++ [(numS 110 (m + 2), ((m + 2 : Nat) : Int))] := by unfold crowdN; rw [List.range_succ, List.map_append]; rfl
theorem crowdN_new {m k : Nat} (h : m + 2 ≤ k) : look (crowdN m) (numS 110 k) = none := by
  rw [look_none]
  unfold crowdN
  rw [List.map_map]
  intro hm
  obtain ⟨i, hi, e⟩ := List.mem_map.1 hm
  have := numS_inj (show numS 110 (i + 2) = numS 110 k from e)
  have := List.mem_range.1 hi
  omega
theorem crowdN_other {m : Nat} {s : ByteArray} (h : s.data.toList.head? ≠ some 110) : look (crowdN m) s = none := by
  rw [look_none]
  unfold crowdN
  rw [List.map_map]
  intro hm
  obtain ⟨i, hi, e⟩ := List.mem_map.1 hm
  have e : numS 110 (i + 2) = s := e
  rw [← e, numS_data] at h
  exact h rfl

/-- m pipes in the root. -/
structure Crowd (A : FSA) (m : Nat) (base : Nat) : Prop where
  above : A.above base
  next : A.next = m + 2
  keys : A.nodes.map (·.1) = (List.range (m + 1)).map fun i => ((i + 1 : Nat) : Int)
  clock : A.clock = m
  used : A.used = 0
  root : ∃ d, A.node? 1 = some d ∧ d.n.kind = 6 ∧ d.names = crowdN m
  pipe : ∀ i, i < m → ∃ x, A.node? ((i + 2 : Nat) : Int) = some x ∧ x.n.links = 1 ∧ x.nm = none ∧ x.pieces = []
theorem Crowd.fresh {A : FSA} {m base : Nat} (h : Crowd A m base) : ∀ p ∈ A.nodes, p.1 < A.next := by
  intro p hp
  have : p.1 ∈ A.nodes.map (·.1) := List.mem_map.2 ⟨p, hp, rfl⟩
  rw [h.keys] at this
  obtain ⟨i, hi, e⟩ := List.mem_map.1 this
  have := List.mem_range.1 hi
  rw [h.next, ← e]
  omega
theorem Crowd.len {A : FSA} {m base : Nat} (h : Crowd A m base) : A.nodes.length = m + 1 := by
  have := congrArg List.length h.keys
  simpa using this
theorem Crowd.new (b : Nat) (q : Int) : Crowd (FSA.new b q) 0 b := ⟨new_above b q, rfl, rfl, rfl, rfl, ⟨_, rfl, rfl, rfl⟩, fun i hi => absurd hi (by omega)⟩
theorem nodeB_pipe : nodeB 7 0 0 0 ⟨#[]⟩ 0 0 0 0 0 = true := by kernel_rfl
theorem Crowd.makeErr {A : FSA} {m base : Nat} (h : Crowd A m base) (hm : m < 999) : A.makeErr 1 (numS 110 (m + 2)) pipeN = 0 := by
  obtain ⟨r, hr, h6, hn⟩ := h.root
  have hl := h.len
  have hok : nameOk (numS 110 (m + 2)) = true := numS_ok (.inl rfl) (by omega)
  have hnb := nodeB_pipe
  have h1000 : ¬ 1000 ≤ A.nodes.length := by omega
  have hnn := crowdN_new (m := m) (Nat.le_refl _)
  simp [FSA.makeErr, FSA.placeErr, pipeN, hr, h6, hok, hnb, hn, hnn, h1000]
theorem Crowd.full {A : FSA} {base : Nat} (h : Crowd A 999 base) {s : ByteArray} (hs : s.data.toList.head? ≠ some 110) (hok : nameOk s = true) : A.makeErr 1 s pipeN = 14 := by
  obtain ⟨r, hr, h6, hn⟩ := h.root
  have hl := h.len
  have hnb := nodeB_pipe
  have h1000 : 1000 ≤ A.nodes.length := by omega
  have hnn := crowdN_other (m := 999) hs
  simp [FSA.makeErr, FSA.placeErr, pipeN, hr, h6, hok, hnb, hn, hnn, h1000]
theorem core_links {A : FSA} {k : Int} {c : Core} {n : Int} (h1 : (A.node? k).map NodeR.core = some c) (h2 : (A.node? k).map (fun r => r.n.links) = some n) : ∃ r, A.node? k = some r ∧ r.core = c ∧ r.n.links = n := by
  obtain ⟨r, e1, e2⟩ := node_of_core h1
  rw [e1] at h2
  exact ⟨r, e1, e2, by simpa using h2⟩
theorem Crowd.made {w w0 : World} {A : FSA} {m b : Nat} (hA : FSAt w A) (h : Crowd A m b) {db nb xb : Nat} (hb : Below b w0 w) (hs : b ≤ w0.heap.size) (hx1 : w.heap.size ≤ xb) (hd : ∃ r, A.node? 1 = some r ∧ r.blk = db ∧ r.nm = some nb) :
    Crowd (A.made 1 (numS 110 (m + 2)) pipeN db nb xb none) (m + 1) b := by
  obtain ⟨d, hd1, hd2, hd3⟩ := hd
  obtain ⟨a1, a2, a3, a4, a5, a6⟩ := made_rest A 1 (numS 110 (m + 2)) pipeN db nb xb none
  have hbs := hb.size
  have hc := made_core A 1 (numS 110 (m + 2)) pipeN db nb xb none (by simp) h.fresh
  have hl := made_links A 1 (numS 110 (m + 2)) pipeN db nb xb none h.fresh
  refine ⟨h.above.made (w := w) (by omega) hx1 (fun y hy => by cases hy), ?_, ?_, ?_, a4.trans h.used, ?_, ?_⟩
  · rw [a2, h.next]; push_cast; omega
  · rw [a6, h.keys, h.next, List.range_succ (n := m + 1), List.map_append]
    congr 1
  · rw [a5, h.clock]; push_cast; rfl
  · obtain ⟨d', hd', d6, dn⟩ := h.root
    obtain rfl : d' = d := by rw [hd'] at hd1; exact Option.some.inj hd1
    have hc1 := hc 1
    rw [if_neg (by rw [h.next]; omega), hd', Option.map_some, if_pos hd3] at hc1
    obtain ⟨r, e1, e2⟩ := node_of_core hc1
    refine ⟨r, e1, (congrArg Core.kind e2).trans d6, ?_⟩
    rw [show r.names = _ from congrArg Core.names e2, dn, crowdN_succ, h.next]
    rfl
  · intro i hi
    have hc1 := hc ((i + 2 : Nat) : Int)
    have hl1 := hl ((i + 2 : Nat) : Int)
    by_cases e : i = m
    · subst e
      rw [if_pos (by rw [h.next]; push_cast; rfl)] at hc1 hl1
      obtain ⟨r, e1, e2, e3⟩ := core_links hc1 hl1
      exact ⟨r, e1, e3, congrArg Core.nm e2, congrArg Core.pieces e2⟩
    · rw [if_neg (by rw [h.next]; omega)] at hc1 hl1
      obtain ⟨x, hx, x1, x2, x3⟩ := h.pipe i (by omega)
      rw [hx, Option.map_some] at hc1 hl1
      obtain ⟨r, e1, e2, e3⟩ := core_links hc1 hl1
      exact ⟨r, e1, e3.trans x1, (congrArg Core.nm e2).trans x2, (congrArg Core.pieces e2).trans x3⟩

theorem crowd_make {w w0 : World} {A : FSA} {m b : Nat} (h : FSAt w A) (hC : Crowd A m b) (hm : m < 999) (hb : Below b w0 w) (hs : b ≤ w0.heap.size) :
    Calls Try.prog 9 #[A.fp, .int .i64 1, .string (numS 110 (m + 2)), pipeN.val] w fun e w' =>
      ∃ A1, e = .returned (.tuple #[.int .i64 ((m + 2 : Nat) : Int), .int .i64 0]) ∧ FSAt w' A1 ∧ Crowd A1 (m + 1) b ∧ Below b w0 w' ∧ A1.fb = A.fb := by
  obtain ⟨db, hmk⟩ := make_ok h 1 (numS 110 (m + 2)) pipeN (hC.makeErr hm) hC.fresh (by rw [hC.next]; omega) (by rw [hC.next]; omega) (by rw [hC.clock]; omega) (by rw [hC.clock]; omega)
  refine hmk.mono ?_
  rintro e w' ⟨rfl, nb, xb, xm, h1, hx1, hx2, hx3, hd, hf⟩
  have hxn : xm = none := by
    cases xm with
    | none => rfl
    | some y => exact absurd (hx3.1 rfl) (by decide)
  subst hxn
  obtain ⟨a1, a2, a3, a4, a5, a6⟩ := made_rest A 1 (numS 110 (m + 2)) pipeN db nb xb none
  refine ⟨_, ?_, h1, hC.made h hb hs hx1 hd, hC.above.frm hf hb hs, a1⟩
  rw [hC.next]; push_cast; rfl
end Go.Proofs.Ytccfimgpbmkpiaa
