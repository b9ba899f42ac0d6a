/- A new node, and a names' map turned, told as a change of the abstract state. No conditions. -/
import Derived.Test.YtccfimgpbmkpiaaFsB
namespace Go.Proofs.Ytccfimgpbmkpiaa
set_option linter.unusedVariables false
set_option linter.unusedSimpArgs false
open Go.RowKit Go.MapKept

/-- The names in block b, turned. -/
def FSA.updN (A : FSA) (b : Nat) (g : List (ByteArray × Int) → List (ByteArray × Int)) : FSA :=
  { A with nodes := A.nodes.map fun p => (p.1, if p.2.nm = some b then { p.2 with names := g p.2.names } else p.2) }
def FSA.addNode (A : FSA) (i : Int) (x : NodeR) : FSA := { A with nodes := A.nodes ++ [(i, x)] }
def FSA.delNode (A : FSA) (i : Int) : FSA := { A with nodes := A.nodes.filter fun p => !decide (p.1 = i) }

theorem Only.keepT {T : TypeId → Prop} {w w' : World} {b : Nat} (h : Only w w' b) (hb : ∀ cs t fr, w.heap[b]? ≠ some (.cells cs t fr)) : KeepT T w w' :=
  fun g cs t fr _ hg => (h.far g (fun e => by subst e; exact hb _ _ _ hg)).trans hg
theorem MapOf.not_cells {K V : Type} {eK : K → Value} {eV : V → Value} {w : World} {b : Nat} {l : List (K × V)} (h : MapOf eK eV w b l) : ∀ cs t fr, w.heap[b]? ≠ some (.cells cs t fr) := by
  intro cs t fr e
  obtain ⟨es, ck, h1, _⟩ := h
  rw [h1] at e; cases e

section
variable {w w' : World} {A : FSA}

theorem updN_node (b : Nat) (g : List (ByteArray × Int) → List (ByteArray × Int)) (k : Int) : (A.updN b g).node? k = (A.node? k).map fun r => if r.nm = some b then { r with names := g r.names } else r := by
  unfold FSA.node? FSA.updN
  exact look_map (K := Int) (fun r : NodeR => if r.nm = some b then { r with names := g r.names } else r) A.nodes k
theorem updN_blks (b : Nat) (g : List (ByteArray × Int) → List (ByteArray × Int)) : (A.updN b g).nodes.map (·.2.blk) = A.nodes.map (·.2.blk) := by
  unfold FSA.updN
  simp only [List.map_map]
  exact List.map_congr_left fun p _ => by simp only [Function.comp]; split <;> rfl
theorem updN_kb (b : Nat) (g : List (ByteArray × Int) → List (ByteArray × Int)) : ((A.updN b g).nodes.map fun p => (p.1, p.2.blk)) = A.nodes.map fun p => (p.1, p.2.blk) := by
  unfold FSA.updN
  simp only [List.map_map]
  exact List.map_congr_left fun p _ => by simp only [Function.comp]; split <;> rfl
theorem updN_nms (b : Nat) (g : List (ByteArray × Int) → List (ByteArray × Int)) : (A.updN b g).nodes.filterMap (·.2.nm) = A.nodes.filterMap (·.2.nm) := by
  unfold FSA.updN
  simp only [List.filterMap_map]
  congr 1
  funext p
  simp only [Function.comp]; split <;> rfl
theorem updN_owns (b : Nat) (g : List (ByteArray × Int) → List (ByteArray × Int)) : (A.updN b g).owns = A.owns := by
  funext x
  unfold FSA.owns
  rw [updN_blks, updN_nms]
  rfl

/-- Two nodes of one names' block are one. -/
theorem nm_inj {l : List (Int × NodeR)} (hn : (l.filterMap (·.2.nm)).Nodup) {p q : Int × NodeR} {b : Nat} (hp : p ∈ l) (hq : q ∈ l) (h1 : p.2.nm = some b) (h2 : q.2.nm = some b) : p = q := by
  induction l with
  | nil => cases hp
  | cons x l ih =>
    rw [List.filterMap_cons] at hn
    rcases List.mem_cons.1 hp with rfl | hp' <;> rcases List.mem_cons.1 hq with rfl | hq'
    · rfl
    · rw [h1] at hn
      exact absurd (List.mem_filterMap.2 ⟨q, hq', h2⟩) (List.nodup_cons.1 hn).1
    · rw [h2] at hn
      exact absurd (List.mem_filterMap.2 ⟨p, hp', h1⟩) (List.nodup_cons.1 hn).1
    · refine ih ?_ hp' hq'
      split at hn
      · exact hn
      · exact (List.nodup_cons.1 hn).2
theorem blk_inj {l : List (Int × NodeR)} (hn : (l.map (·.2.blk)).Nodup) {p q : Int × NodeR} (hp : p ∈ l) (hq : q ∈ l) (h : p.2.blk = q.2.blk) : p = q := by
  induction l with
  | nil => cases hp
  | cons x l ih =>
    rw [List.map_cons, List.nodup_cons] at hn
    rcases List.mem_cons.1 hp with rfl | hp' <;> rcases List.mem_cons.1 hq with rfl | hq'
    · rfl
    · exact absurd (List.mem_map.2 ⟨q, hq', h.symm⟩) hn.1
    · exact absurd (List.mem_map.2 ⟨p, hp', h⟩) hn.1
    · exact ih hn.2 hp' hq'

/-- A names' map has turned. -/
theorem FSAt.names (h : FSAt w A) {i : Int} {r : NodeR} (hr : A.node? i = some r) {b : Nat} (hb : r.nm = some b) {g : List (ByteArray × Int) → List (ByteArray × Int)} (hm : MapOf eStr eInt w' b (g r.names)) (ho : Only w w' b) : FSAt w' (A.updN b g) := by
  have hmem := h.mem hr
  have hk : KeepT isData w w' := ho.keepT ((h.node _ hmem).nm b hb).not_cells
  have hbm : b ≠ A.mb := fun e => by
    have := (List.nodup_cons.1 h.nms).1
    exact this (e ▸ List.mem_filterMap.2 ⟨_, hmem, hb⟩)
  refine ⟨ho.blk h.fs (fun e => ?_), ?_, ?_, ?_, ?_⟩
  · exact ((h.node _ hmem).nm b hb).ne_blk h.fs e.symm
  · rw [updN_kb]; exact h.map.keep (ho.far _ (Ne.symm hbm))
  · intro p hp
    unfold FSA.updN at hp
    obtain ⟨q, hq, rfl⟩ := List.mem_map.1 hp
    have hq' := h.node q hq
    have hblk : w'.heap[q.2.blk]? = w.heap[q.2.blk]? := ho.far _ (fun e => ((h.node _ hmem).nm b hb).ne_blk hq'.blk e.symm)
    show NodeAt w' (if q.2.nm = some b then { q.2 with names := g q.2.names } else q.2)
    by_cases e : q.2.nm = some b
    · rw [if_pos e]
      obtain rfl : q = (i, r) := nm_inj (List.nodup_cons.1 h.nms).2 hq hmem e hb
      refine ⟨hblk.trans hq'.blk, fun b' hb' => ?_, fun hn => ?_, hq'.dir, hq'.pcs.keep hk⟩
      · obtain rfl : b' = b := by have := hb'.symm.trans hb; injection this
        exact hm
      · exact absurd (hn.symm.trans hb) (by simp)
    · rw [if_neg e]
      exact hq'.keep hblk (fun b' hb' => ho.far _ (fun e' => e (e' ▸ hb'))) hk
  · rw [updN_blks]; exact h.blks
  · rw [updN_nms]; exact h.nms

theorem addNode_owns (i : Int) (x : NodeR) (b : Nat) : (A.addNode i x).owns b ↔ A.owns b ∨ b = x.blk ∨ x.nm = some b := by
  unfold FSA.owns FSA.addNode
  simp only [List.map_append, List.map_cons, List.map_nil, List.mem_append, List.mem_singleton, List.filterMap_append, List.mem_filterMap, List.filterMap_cons, List.filterMap_nil]
  cases hx : x.nm with
  | none => simp; grind
  | some y => simp; grind

/-- A node has come. -/
theorem FSAt.add (h : FSAt w A) {i : Int} {x : NodeR} (hx : NodeAt w' x) (h1 : x.blk ∉ A.nodes.map (·.2.blk)) (h2 : ∀ b, x.nm = some b → b ≠ A.mb ∧ b ∉ A.nodes.filterMap (·.2.nm))
    (hm : MapOf eInt ePtr w' A.mb ((A.nodes.map fun p => (p.1, p.2.blk)) ++ [(i, x.blk)])) (ho : Only w w' A.mb) : FSAt w' (A.addNode i x) := by
  have hk : KeepT isData w w' := ho.keepT h.map.not_cells
  refine ⟨ho.blk h.fs (fun e => h.map.ne_blk h.fs e.symm), ?_, ?_, ?_, ?_⟩
  · unfold FSA.addNode; rw [List.map_append]; exact hm
  · intro p hp
    rcases List.mem_append.1 hp with hp | hp
    · have hp' := h.node p hp
      refine hp'.keep (ho.far _ (fun e => h.map.ne_blk hp'.blk e.symm)) (fun b hb => ho.far _ (fun e => ?_)) hk
      exact (List.nodup_cons.1 h.nms).1 (e ▸ List.mem_filterMap.2 ⟨p, hp, hb⟩)
    · obtain rfl : p = (i, x) := by simpa using hp
      exact hx
  · unfold FSA.addNode
    rw [List.map_append]
    refine List.nodup_append.2 ⟨h.blks, by simp, ?_⟩
    intro a ha b hb e
    obtain rfl : b = x.blk := by simpa using hb
    exact h1 (e ▸ ha)
  · unfold FSA.addNode
    show (A.mb :: (A.nodes ++ [(i, x)]).filterMap (·.2.nm)).Nodup
    rw [List.filterMap_append, ← List.cons_append]
    refine List.nodup_append.2 ⟨h.nms, ?_, ?_⟩
    · cases hx' : x.nm <;> simp [hx']
    · intro a ha b hb e
      cases hx' : x.nm with
      | none => simp [hx'] at hb
      | some y =>
        obtain rfl : b = y := by simpa [hx'] using hb
        obtain ⟨h3, h4⟩ := h2 _ hx'
        rcases List.mem_cons.1 ha with rfl | ha
        · exact h3 e.symm
        · exact h4 (e ▸ ha)

theorem addNode_node (i : Int) (x : NodeR) (k : Int) (hi : i ∉ A.nodes.map (·.1)) : (A.addNode i x).node? k = if i = k then some x else A.node? k := look_append_new _ _ _ _ hi
end
end Go.Proofs.Ytccfimgpbmkpiaa
