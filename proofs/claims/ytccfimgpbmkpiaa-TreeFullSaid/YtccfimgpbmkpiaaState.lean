/- What the nodes are behind tick, Make, Move, Write: plain laws of the abstract state. No conditions. -/
import Derived.Test.YtccfimgpbmkpiaaWrite
import Derived.Test.YtccfimgpbmkpiaaNew
namespace Go.Proofs.Ytccfimgpbmkpiaa
set_option linter.unusedVariables false
set_option linter.unusedSimpArgs false
set_option maxRecDepth 100000
open Go.RowKit Go.MapKept

def tickR (c : Int) (ds ls : List Nat) (r : NodeR) : NodeR :=
  if r.blk ∈ ls then setChange c (if r.blk ∈ ds then setTime c (setChange c r) else r) else if r.blk ∈ ds then setTime c (setChange c r) else r

theorem tickD_node (c : Int) (k : Int) : ∀ (ds : List Nat) (A : FSA), (A.tickD c ds).node? k = (A.node? k).map fun r => if r.blk ∈ ds then setTime c (setChange c r) else r := by
  intro ds
  induction ds with
  | nil => intro A; show A.node? k = _; simp
  | cons b ds ih =>
    intro A
    show (((A.updB b (setChange c)).updB b (setTime c)).tickD c ds).node? k = _
    rw [ih, updB_node, updB_node]
    cases A.node? k with
    | none => rfl
    | some r =>
      simp only [Option.map_some, Option.some.injEq]
      by_cases h1 : r.blk = b
      · have h2 : (setChange c r).blk = b := h1
        have h3 : (setTime c (setChange c r)).blk = b := h1
        rw [if_pos h1, if_pos h2, h3]
        simp only [h1, List.mem_cons, true_or, if_true]
        split <;> rfl
      · rw [if_neg h1, if_neg h1]
        simp only [List.mem_cons, h1, false_or]
theorem tickL_node (c : Int) (k : Int) : ∀ (ds : List Nat) (A : FSA), (A.tickL c ds).node? k = (A.node? k).map fun r => if r.blk ∈ ds then setChange c r else r := by
  intro ds
  induction ds with
  | nil => intro A; show A.node? k = _; simp
  | cons b ds ih =>
    intro A
    show ((A.updB b (setChange c)).tickL c ds).node? k = _
    rw [ih, updB_node]
    cases A.node? k with
    | none => rfl
    | some r =>
      simp only [Option.map_some, Option.some.injEq]
      by_cases h1 : r.blk = b
      · have h2 : (setChange c r).blk = b := h1
        rw [if_pos h1, h2]
        simp only [h1, List.mem_cons, true_or, if_true]
        split <;> rfl
      · rw [if_neg h1]
        simp only [List.mem_cons, h1, false_or]
theorem tick_node (A : FSA) (ds ls : List Nat) (k : Int) : (A.tick ds ls).node? k = (A.node? k).map (tickR (A.clock + 1) ds ls) := by
  unfold FSA.tick
  rw [tickL_node, tickD_node]
  show Option.map _ (Option.map _ (A.node? k)) = _
  cases A.node? k with
  | none => rfl
  | some r =>
    simp only [Option.map_some, Option.some.injEq, tickR]
    by_cases h1 : r.blk ∈ ds <;> by_cases h2 : r.blk ∈ ls <;> simp [h1, h2, setTime, setChange]
theorem tick_rest (A : FSA) (ds ls : List Nat) : (A.tick ds ls).fb = A.fb ∧ (A.tick ds ls).mb = A.mb ∧ (A.tick ds ls).next = A.next ∧ (A.tick ds ls).quota = A.quota ∧ (A.tick ds ls).used = A.used ∧ (A.tick ds ls).clock = A.clock + 1 := by
  obtain ⟨a1, a2, a3, a4, a5, a6⟩ := tickL_fb (FSA.tickD { A with clock := A.clock + 1 } (A.clock + 1) ds) (A.clock + 1) ls
  obtain ⟨b1, b2, b3, b4, b5, b6⟩ := tickD_fb { A with clock := A.clock + 1 } (A.clock + 1) ds
  exact ⟨a1.trans b1, a2.trans b2, a3.trans b3, a4.trans b4, a5.trans b5, a6.trans b6⟩
theorem tick_owns (A : FSA) (ds ls : List Nat) : (A.tick ds ls).owns = A.owns := (tickL_owns _ _ _).trans (tickD_owns _ _ _)
theorem tickD_keys (c : Int) : ∀ (ds : List Nat) (A : FSA), (A.tickD c ds).nodes.map (·.1) = A.nodes.map (·.1) := by
  intro ds
  induction ds with
  | nil => intro A; rfl
  | cons b ds ih => intro A; exact (ih _).trans ((updB_keys (f := setTime c) b).trans (updB_keys (f := setChange c) b))
theorem tickL_keys (c : Int) : ∀ (ds : List Nat) (A : FSA), (A.tickL c ds).nodes.map (·.1) = A.nodes.map (·.1) := by
  intro ds
  induction ds with
  | nil => intro A; rfl
  | cons b ds ih => intro A; exact (ih _).trans (updB_keys (f := setChange c) b)
theorem tick_keys (A : FSA) (ds ls : List Nat) : (A.tick ds ls).nodes.map (·.1) = A.nodes.map (·.1) := (tickL_keys _ _ _).trans (tickD_keys _ _ _)
theorem updN_keys (A : FSA) (b : Nat) (g : List (ByteArray × Int) → List (ByteArray × Int)) : (A.updN b g).nodes.map (·.1) = A.nodes.map (·.1) := by
  unfold FSA.updN
  simp only [List.map_map]
  exact List.map_congr_left fun p _ => rfl

/-- What of a node no tick turns. -/
structure Core where
  kind : Int
  names : List (ByteArray × Int)
  up : Int
  size : Int
  pieces : List CP
  plen : Nat
  blk : Nat
  nm : Option Nat
def NodeR.core (r : NodeR) : Core := ⟨r.n.kind, r.names, r.up, r.n.size, r.pieces, r.plen, r.blk, r.nm⟩
theorem tickR_core (c : Int) (ds ls : List Nat) (r : NodeR) : (tickR c ds ls r).core = r.core := by
  unfold tickR
  split <;> split <;> rfl
theorem tickR_change {c : Int} {ds ls : List Nat} {r : NodeR} (h : r.blk ∈ ds ∨ r.blk ∈ ls) : (tickR c ds ls r).n.change = c := by
  unfold tickR
  by_cases h1 : r.blk ∈ ls
  · rw [if_pos h1]; rfl
  · rcases h with h | h
    · rw [if_neg h1, if_pos h]; rfl
    · exact absurd h h1
theorem tick_core (A : FSA) (ds ls : List Nat) (k : Int) : ((A.tick ds ls).node? k).map NodeR.core = (A.node? k).map NodeR.core := by
  rw [tick_node, Option.map_map]
  cases A.node? k with
  | none => rfl
  | some r => exact congrArg some (tickR_core _ _ _ r)

/-- The number is a new one. -/
theorem next_new {A : FSA} (h : ∀ p ∈ A.nodes, p.1 < A.next) : A.next ∉ A.nodes.map (·.1) := by
  intro hm
  obtain ⟨p, hp, e⟩ := List.mem_map.1 hm
  have := h p hp
  omega
theorem made_core (A : FSA) (dir : Int) (part : ByteArray) (n : ANode) (db nb xb : Nat) (xm : Option Nat) (hx : xm ≠ some nb) (hf : ∀ p ∈ A.nodes, p.1 < A.next) (k : Int) :
    ((A.made dir part n db nb xb xm).node? k).map NodeR.core = if A.next = k then some ⟨n.kind, [], dir, n.size, [], 0, xb, xm⟩ else (A.node? k).map fun r => ⟨r.n.kind, if r.nm = some nb then r.names ++ [(part, A.next)] else r.names, r.up, r.n.size, r.pieces, r.plen, r.blk, r.nm⟩ := by
  unfold FSA.made
  rw [tick_core, updN_node, addNode_node (A := { A with next := A.next + 1 }) _ _ _ (show A.next ∉ A.nodes.map (·.1) from next_new hf)]
  by_cases e : A.next = k
  · rw [if_pos e, if_pos e]
    simp only [Option.map_some, if_neg hx]
    rfl
  · rw [if_neg e, if_neg e]
    show Option.map _ (Option.map _ (A.node? k)) = _
    cases A.node? k with
    | none => rfl
    | some r =>
      simp only [Option.map_some, Option.some.injEq]
      split <;> rfl
theorem made_rest (A : FSA) (dir : Int) (part : ByteArray) (n : ANode) (db nb xb : Nat) (xm : Option Nat) :
    (A.made dir part n db nb xb xm).fb = A.fb ∧ (A.made dir part n db nb xb xm).next = A.next + 1 ∧ (A.made dir part n db nb xb xm).quota = A.quota ∧ (A.made dir part n db nb xb xm).used = A.used ∧ (A.made dir part n db nb xb xm).clock = A.clock + 1 ∧ (A.made dir part n db nb xb xm).nodes.map (·.1) = A.nodes.map (·.1) ++ [A.next] := by
  obtain ⟨a1, a2, a3, a4, a5, a6⟩ := tick_rest ((FSA.addNode { A with next := A.next + 1 } A.next { n := { n with links := 1 }, nm := xm, names := [], pad := none, plen := 0, pcap := 0, pieces := [], up := dir, blk := xb }).updN nb fun l => l ++ [(part, A.next)]) [db] [xb]
  refine ⟨a1, a3, a4, a5, a6, ?_⟩
  unfold FSA.made
  rw [tick_keys, updN_keys]
  unfold FSA.addNode
  simp
theorem made_owns (A : FSA) (dir : Int) (part : ByteArray) (n : ANode) (db nb xb : Nat) (xm : Option Nat) (b : Nat) (h : (A.made dir part n db nb xb xm).owns b) : A.owns b ∨ b = xb ∨ xm = some b := by
  unfold FSA.made at h
  rw [tick_owns, updN_owns] at h
  exact (addNode_owns _ _ b).1 h
theorem wrote_core (A : FSA) (r : NodeR) (P : Option Addr) (n c : Nat) (ps : List CP) (sz more : Int) (k : Int) :
    ((A.wrote r P n c ps sz more).node? k).map NodeR.core = (A.node? k).map fun q => if q.blk = r.blk then ⟨q.n.kind, q.names, q.up, sz, ps, n, q.blk, q.nm⟩ else q.core := by
  unfold FSA.wrote
  rw [tick_core]
  show Option.map _ (((A.updB r.blk (setPcs P n c ps)).updB r.blk (setSize sz)).node? k) = _
  rw [updB_node, updB_node]
  cases A.node? k with
  | none => rfl
  | some q =>
    simp only [Option.map_some, Option.some.injEq]
    by_cases e : q.blk = r.blk
    · have e2 : (setPcs P n c ps q).blk = r.blk := e
      rw [if_pos e, if_pos e, if_pos e2]; rfl
    · rw [if_neg e, if_neg e, if_neg e]
theorem wrote_rest (A : FSA) (r : NodeR) (P : Option Addr) (n c : Nat) (ps : List CP) (sz more : Int) :
    (A.wrote r P n c ps sz more).fb = A.fb ∧ (A.wrote r P n c ps sz more).next = A.next ∧ (A.wrote r P n c ps sz more).quota = A.quota ∧ (A.wrote r P n c ps sz more).used = A.used + more ∧ (A.wrote r P n c ps sz more).clock = A.clock + 1 := by
  obtain ⟨a1, a2, a3, a4, a5, a6⟩ := tick_rest ({ (A.updB r.blk (setPcs P n c ps)).updB r.blk (setSize sz) with used := A.used + more } : FSA) [] [r.blk]
  exact ⟨a1, a3, a4, a5, a6⟩
theorem wrote_owns (A : FSA) (r : NodeR) (P : Option Addr) (n c : Nat) (ps : List CP) (sz more : Int) : (A.wrote r P n c ps sz more).owns = A.owns := by
  unfold FSA.wrote
  rw [tick_owns]
  refine Eq.trans (b := ((A.updB r.blk (setPcs P n c ps)).updB r.blk (setSize sz)).owns) rfl ?_
  exact (updB_owns (f := setSize sz) _ (fun _ => rfl) (fun _ => rfl)).trans (updB_owns (f := setPcs P n c ps) _ (fun _ => rfl) (fun _ => rfl))
/-- All that A owns is new since a world of that size. -/
def FSA.above (A : FSA) (base : Nat) : Prop := ∀ b, A.owns b → base ≤ b
theorem FSA.above.made {A : FSA} {base : Nat} (h : A.above base) {dir : Int} {part : ByteArray} {n : ANode} {db nb xb : Nat} {xm : Option Nat} {w : World} (hw : base ≤ w.heap.size) (h1 : w.heap.size ≤ xb) (h2 : ∀ y, xm = some y → w.heap.size ≤ y) : (A.made dir part n db nb xb xm).above base := by
  intro b hb
  rcases made_owns A dir part n db nb xb xm b hb with e | rfl | e
  · exact h b e
  · omega
  · have := h2 b e; omega
theorem FSA.above.frm {A : FSA} {base : Nat} (h : A.above base) {w w' : World} (hf : Frm A.owns w w') {w0 : World} (h0 : Below base w0 w) (hs : base ≤ w0.heap.size) : Below base w0 w' :=
  ⟨hf.os.trans h0.os, hf.tape.trans h0.tape, hf.output.trans h0.output, Nat.le_trans h0.size hf.size, fun b hb => (hf.blk b (Nat.lt_of_lt_of_le (Nat.lt_of_lt_of_le hb hs) (Nat.le_trans (by first | exact Nat.le_refl _ | exact h0.size) h0.size)) (fun e => absurd (h b e) (Nat.not_le_of_lt hb))).trans (h0.block b hb)⟩
theorem new_above (b : Nat) (q : Int) : (FSA.new b q).above b := by
  intro x hx
  unfold FSA.new FSA.owns at hx
  simp at hx
  omega
end Go.Proofs.Ytccfimgpbmkpiaa
