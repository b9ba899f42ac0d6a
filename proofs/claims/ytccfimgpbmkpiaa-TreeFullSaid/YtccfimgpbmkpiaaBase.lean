/- Memory words used by every text of this family: a frame by a set of blocks, blocks known whole, maps known by their entries in order of birth. No conditions. -/
import Derived.Test.YtccfimgpbmkpiaaChecked
import Derived.WalkKit
import Derived.Carry
namespace Go.Proofs.Ytccfimgpbmkpiaa
set_option linter.unusedSectionVars false
set_option linter.unusedSimpArgs false
set_option linter.unusedVariables false
open Go.RowKit Go.MapKept

/-! ### frames -/
/-- w' is w, but for blocks of B and new ones. -/
structure Frm (B : Nat → Prop) (w w' : World) : Prop where
  os : w'.os = w.os
  tape : w'.tape = w.tape
  output : w'.output = w.output
  size : w.heap.size ≤ w'.heap.size
  blk : ∀ b, b < w.heap.size → ¬ B b → w'.heap[b]? = w.heap[b]?

theorem Frm.refl (B : Nat → Prop) (w : World) : Frm B w w := ⟨rfl, rfl, rfl, Nat.le_refl _, fun _ _ _ => rfl⟩
theorem Frm.trans {B B' : Nat → Prop} {a b c : World} (h : Frm B a b) (k : Frm B' b c) (hB : ∀ x, x < a.heap.size → B' x → B x) : Frm B a c :=
  ⟨k.os.trans h.os, k.tape.trans h.tape, k.output.trans h.output, Nat.le_trans h.size k.size, fun x hx hn => (k.blk x (Nat.lt_of_lt_of_le hx h.size) (fun hb => hn (hB x hx hb))).trans (h.blk x hx hn)⟩
theorem Frm.trans' {B : Nat → Prop} {a b c : World} (h : Frm B a b) (k : Frm B b c) : Frm B a c := h.trans k fun _ _ => id
theorem Frm.mono {B B' : Nat → Prop} {a b : World} (h : Frm B a b) (hB : ∀ x, x < a.heap.size → B x → B' x) : Frm B' a b :=
  ⟨h.os, h.tape, h.output, h.size, fun x hx hn => h.blk x hx (fun hb => hn (hB x hx hb))⟩
theorem Frm.drew {B : Nat → Prop} {a w : World} (h : Frm B a w) : Frm B a w.drew := ⟨h.os, h.tape, h.output, h.size, h.blk⟩
theorem Frm.alloc {B : Nat → Prop} {a w : World} (h : Frm B a w) (o : Obj) : Frm B a (w.alloc o) :=
  h.trans' ⟨rfl, rfl, rfl, by simp, fun k hk _ => Below.heap_alloc _ _ _ hk⟩
theorem Frm.setCell {B : Nat → Prop} {a w : World} (h : Frm B a w) {p : Addr} (hp : p.block < a.heap.size → B p.block) (u : Value) : Frm B a (w.setCell p u) :=
  h.trans (B' := fun b => b = p.block) ⟨rfl, rfl, rfl, by simp [World.setCell], fun k _ hn => Below.heap_setCell _ _ _ _ hn⟩ (fun x hx e => by subst e; exact hp hx)
theorem Frm.grown {B : Nat → Prop} {a w w' : World} (h : Frm B a w) {row : Option Nat} (hg : w.grownBy w' row) (hr : ∀ k, row = some k → k < a.heap.size → B k) : Frm B a w' :=
  h.trans (B' := fun b => some b = row) ⟨hg.os, hg.tape, hg.output, hg.size, fun k hk hn => hg.block k hk hn⟩ (fun x hx e => hr x e.symm hx)
theorem Frm.of_below {w w' : World} (h : Below w.heap.size w w') (B : Nat → Prop) : Frm B w w' := ⟨h.os, h.tape, h.output, h.size, fun b hb _ => h.block b hb⟩
theorem Frm.below {B : Nat → Prop} {w w' : World} (h : Frm B w w') {n : Nat} (hn : n ≤ w.heap.size) (hB : ∀ x, x < n → ¬ B x) : Below n w w' :=
  ⟨h.os, h.tape, h.output, h.size, fun b hb => h.blk b (Nat.lt_of_lt_of_le hb hn) (hB b hb)⟩

/-- One block is another object now. -/
def setB (w : World) (b : Nat) (o : Obj) : World := { w with heap := w.heap.setIfInBounds b o }
theorem setB_size (w : World) (b : Nat) (o : Obj) : (setB w b o).heap.size = w.heap.size := by simp [setB]
theorem setB_same {w : World} {b : Nat} (h : b < w.heap.size) (o : Obj) : (setB w b o).heap[b]? = some o := by simp [setB, h]
theorem setB_other (w : World) {b b' : Nat} (h : b' ≠ b) (o : Obj) : (setB w b o).heap[b']? = w.heap[b']? := by simp [setB, Ne.symm h]
theorem Frm.setB {B : Nat → Prop} {a w : World} (h : Frm B a w) {b : Nat} (hp : b < a.heap.size → B b) (o : Obj) : Frm B a (setB w b o) :=
  h.trans (B' := fun x => x = b) ⟨rfl, rfl, rfl, by simp [Ytccfimgpbmkpiaa.setB], fun k _ hn => setB_other w hn o⟩ (fun x hx e => by subst e; exact hp hx)
theorem heap_lt {w : World} {b : Nat} {o : Obj} (h : w.heap[b]? = some o) : b < w.heap.size := (Array.getElem?_eq_some_iff.1 h).1

/-- A block of cells, known whole. -/
def Blk (w : World) (g : Nat) (t : TypeId) (cs : Array Value) : Prop := w.heap[g]? = some (.cells cs t (0, 0))
theorem Blk.lt {w : World} {g : Nat} {t : TypeId} {cs : Array Value} (h : Blk w g t cs) : g < w.heap.size := heap_lt h
theorem Blk.cell {w : World} {g : Nat} {t : TypeId} {cs : Array Value} (h : Blk w g t cs) (i : Nat) : w.cell? ⟨g, i, none⟩ = cs[i]? := cell_of_row w g i cs t (0, 0) h
theorem Blk.frozen {w : World} {g : Nat} {t : TypeId} {cs : Array Value} (h : Blk w g t cs) (i : Nat) : w.frozen? ⟨g, i, none⟩ = false := by
  unfold Blk at h
  simp [World.frozen?, h]
theorem Blk.set_ {w : World} {g : Nat} {t : TypeId} {cs : Array Value} (h : Blk w g t cs) (i : Nat) (u : Value) : Blk (w.setCell ⟨g, i, none⟩ u) g t (cs.setIfInBounds i u) := by
  unfold Blk at h ⊢
  simp [World.setCell, Array.getElem?_modify, h]
theorem Blk.far {w : World} {g : Nat} {t : TypeId} {cs : Array Value} (h : Blk w g t cs) {p : Addr} (hp : g ≠ p.block) (u : Value) : Blk (w.setCell p u) g t cs := (Below.heap_setCell w p u g hp).trans h
theorem Blk.alloc {w : World} {g : Nat} {t : TypeId} {cs : Array Value} (h : Blk w g t cs) (o : Obj) : Blk (w.alloc o) g t cs := (Below.heap_alloc w o g h.lt).trans h
theorem Blk.new (w : World) (t : TypeId) (cs : Array Value) : Blk (w.alloc (.cells cs t)) w.heap.size t cs := heap_alloc_new w _
theorem Blk.frm {B : Nat → Prop} {w w' : World} {g : Nat} {t : TypeId} {cs : Array Value} (h : Blk w g t cs) (hf : Frm B w w') (hg : ¬ B g) : Blk w' g t cs := (hf.blk g h.lt hg).trans h
theorem Blk.ne_ {w : World} {g g' : Nat} {t t' : TypeId} {cs cs' : Array Value} (h : Blk w g t cs) (h' : Blk w g' t' cs') (hne : t ≠ t') : g ≠ g' := by
  rintro rfl
  unfold Blk at h h'
  rw [h] at h'
  injection h' with h'
  injection h' with _ ht
  exact hne ht

/-! ### maps, by their entries -/
/-- What a row of entries has at a key. -/
def look {K V : Type} [DecidableEq K] (l : List (K × V)) (k : K) : Option V := (l.find? (fun p => decide (p.1 = k))).map (·.2)

theorem look_nil {K V : Type} [DecidableEq K] (k : K) : look ([] : List (K × V)) k = none := rfl
theorem look_cons {K V : Type} [DecidableEq K] (p : K × V) (l : List (K × V)) (k : K) : look (p :: l) k = if p.1 = k then some p.2 else look l k := by
  unfold look
  by_cases h : p.1 = k <;> simp [List.find?_cons, h]
theorem look_mem {K V : Type} [DecidableEq K] {l : List (K × V)} {k : K} {v : V} (h : look l k = some v) : (k, v) ∈ l := by
  induction l with
  | nil => cases h
  | cons p l ih =>
    rw [look_cons] at h
    split at h
    · rename_i e; cases h; subst e; exact List.mem_cons_self
    · exact List.mem_cons_of_mem _ (ih h)
theorem look_none {K V : Type} [DecidableEq K] {l : List (K × V)} {k : K} : look l k = none ↔ k ∉ l.map (·.1) := by
  induction l with
  | nil => simp [look_nil]
  | cons p l ih =>
    rw [look_cons]
    by_cases e : p.1 = k
    · simp [e]
    · rw [if_neg e, ih]; simp [Ne.symm e]
theorem look_of_mem {K V : Type} [DecidableEq K] {l : List (K × V)} (hn : (l.map (·.1)).Nodup) {k : K} {v : V} (h : (k, v) ∈ l) : look l k = some v := by
  induction l with
  | nil => cases h
  | cons p l ih =>
    rw [look_cons]
    simp only [List.map_cons, List.nodup_cons] at hn
    rcases List.mem_cons.1 h with rfl | h
    · simp
    · have : p.1 ≠ k := fun e => hn.1 (by rw [e]; exact List.mem_map.2 ⟨(k, v), h, rfl⟩)
      rw [if_neg this]; exact ih hn.2 h
theorem look_append_new {K V : Type} [DecidableEq K] (l : List (K × V)) (k : K) (v : V) (k' : K) (hk : k ∉ l.map (·.1)) : look (l ++ [(k, v)]) k' = if k = k' then some v else look l k' := by
  induction l with
  | nil => simp [look_cons, look_nil]
  | cons p l ih =>
    simp only [List.map_cons, List.mem_cons, not_or] at hk
    rw [List.cons_append, look_cons, look_cons, ih hk.2]
    by_cases e : p.1 = k'
    · have : k ≠ k' := fun h => hk.1 (h.trans e.symm)
      simp [e, this]
    · simp [e]
theorem look_filter {K V : Type} [DecidableEq K] (l : List (K × V)) (k k' : K) : look (l.filter (fun p => !decide (p.1 = k))) k' = if k = k' then none else look l k' := by
  induction l with
  | nil => simp [look_nil]
  | cons p l ih =>
    by_cases e : p.1 = k
    · rw [List.filter_cons_of_neg (by simp [e]), ih, look_cons]
      by_cases e' : k = k'
      · simp [e']
      · simp [e', show p.1 ≠ k' from fun h => e' (e.symm.trans h)]
    · rw [List.filter_cons_of_pos (by simp [e]), look_cons, look_cons, ih]
      by_cases e' : k = k'
      · subst e'; simp [e]
      · simp [e']

/-- Block b is a map whose entries, in order of birth, are l. -/
def MapOf {K V : Type} (eK : K → Value) (eV : V → Value) (w : World) (b : Nat) (l : List (K × V)) : Prop :=
  ∃ es ck, w.heap[b]? = some (.map es ck) ∧ es.toList.map (fun e => (e.key, e.val)) = l.map (fun p => (eK p.1, eV p.2)) ∧ Stamped es ck

section
variable {K V : Type} [DecidableEq K] {eK : K → Value} {eV : V → Value} {w w' : World} {b : Nat} {l : List (K × V)}

theorem MapOf.lt (h : MapOf eK eV w b l) : b < w.heap.size := by obtain ⟨_, _, h, _⟩ := h; exact heap_lt h
theorem MapOf.keep (h : MapOf eK eV w b l) (hb : w'.heap[b]? = w.heap[b]?) : MapOf eK eV w' b l := by
  obtain ⟨es, ck, h1, h2, h3⟩ := h
  exact ⟨es, ck, hb.trans h1, h2, h3⟩
theorem MapOf.new (w : World) : MapOf eK eV (w.alloc (.map #[] 0)) w.heap.size ([] : List (K × V)) := ⟨#[], 0, heap_alloc_new w _, rfl, stamped_empty 0⟩
theorem MapOf.ne_blk {g : Nat} {t : TypeId} {cs : Array Value} (h : MapOf eK eV w b l) (hg : Blk w g t cs) : b ≠ g := by
  rintro rfl
  obtain ⟨es, ck, h1, _⟩ := h
  unfold Blk at hg
  rw [hg] at h1; cases h1

theorem MapOf.keys_nodup (h : MapOf eK eV w b l) : (l.map (·.1)).Nodup := by
  obtain ⟨es, ck, _, h2, _, _, h3⟩ := h
  have e : es.toList.map (·.key) = l.map (fun p => eK p.1) := by
    have := congrArg (List.map Prod.fst) h2
    simpa [List.map_map, Function.comp_def] using this
  rw [e] at h3
  rw [show (l.map fun p => eK p.1) = (l.map (·.1)).map eK by simp [List.map_map, Function.comp_def]] at h3
  exact (List.pairwise_map.1 h3).imp fun hne e => hne (by rw [e])

theorem entries_find {es : List MapEntry} {k : K} (hinj : ∀ a b, eK a = eK b → a = b) (h2 : es.map (fun e => (e.key, e.val)) = l.map (fun p => (eK p.1, eV p.2))) (j : Nat) (e : MapEntry) (hj : es[j]? = some e) (hk : e.key = eK k)
    (hn : (es.map (·.key)).Nodup) : ∃ v, l[j]? = some (k, v) ∧ e.val = eV v ∧ look l k = some v := by
  have h3 := congrArg (fun x => x[j]?) h2
  simp only [List.getElem?_map, hj, Option.map_some] at h3
  cases hl : l[j]? with
  | none => rw [hl] at h3; cases h3
  | some p =>
    rw [hl] at h3
    simp only [Option.map_some, Option.some.injEq, Prod.mk.injEq] at h3
    have e1 : p.1 = k := hinj _ _ (h3.1.symm.trans hk)
    have e2 : es.map (·.key) = l.map (fun p => eK p.1) := by
      have := congrArg (List.map Prod.fst) h2
      simpa [List.map_map, Function.comp_def] using this
    rw [e2, show (l.map fun p => eK p.1) = (l.map (·.1)).map eK by simp [List.map_map, Function.comp_def]] at hn
    have hn' : (l.map (·.1)).Nodup := (List.pairwise_map.1 hn).imp fun hne e => hne (by rw [e])
    refine ⟨p.2, by rw [← e1], h3.2, look_of_mem hn' ?_⟩
    rw [← e1]
    exact List.mem_of_getElem? hl

theorem entries_none {es : List MapEntry} {k : K} (h2 : es.map (fun e => (e.key, e.val)) = l.map (fun p => (eK p.1, eV p.2))) (h : ∀ x ∈ es, x.key ≠ eK k) : k ∉ l.map (·.1) := by
  intro hk
  obtain ⟨p, hp, rfl⟩ := List.mem_map.1 hk
  have : (eK p.1, eV p.2) ∈ es.map (fun e => (e.key, e.val)) := by rw [h2]; exact List.mem_map.2 ⟨p, hp, rfl⟩
  obtain ⟨x, hx, e⟩ := List.mem_map.1 this
  simp only [Prod.mk.injEq] at e
  exact h x hx e.1

variable {P : Program} {t k e : TypeId} {d : TypeDesc}

theorem entries_isKey {es : List MapEntry} (hk : ∀ x, IsKey d (eK x)) (h2 : es.map (fun e => (e.key, e.val)) = l.map (fun p => (eK p.1, eV p.2))) : ∀ x ∈ es, IsKey d x.key := by
  intro x hx
  have : (x.key, x.val) ∈ es.map (fun e => (e.key, e.val)) := List.mem_map.2 ⟨x, hx, rfl⟩
  rw [h2] at this
  obtain ⟨p, _, e⟩ := List.mem_map.1 this
  simp only [Prod.mk.injEq] at e
  rw [← e.1]; exact hk _

/-- m[x], v, ok := m[x]. -/
theorem MapOf.lookup (h : MapOf eK eV w b l) (ht : P.underlying t = some (.map k e)) (hkd : P.underlying k = some d) (hK : ∀ x, IsKey d (eK x)) (hinj : ∀ a b, eK a = eK b → a = b)
    (z : Value) (hz : ∀ w, (zeroValue e).run P w = .ok z w) (x : K) (c : Bool) :
    (Instr.lookup t (.map (some b)) (eK x) c).run P w = .ok (if c then .tuple #[((look l x).map eV).getD z, .bool (look l x).isSome] else ((look l x).map eV).getD z) w := by
  obtain ⟨es, ck, h1, h2, h3⟩ := h
  unfold Instr.lookup
  simp only [Sem.run_bind, run_underlying ht, Result.andThen]
  have hg : (getObj b).run P w = .ok (.map es ck) w := by
    simp [getObj, Sem.run, h1]
  simp only [hg, Sem.run_bind, Result.andThen, Sem.run_pure, run_checkKey hkd (hK x) es.isEmpty 9999]
  rcases findNow_spec (hK x) es.toList 0 (entries_isKey hK h2) with ⟨f1, f2⟩ | ⟨j, e0, f1, f2, f3⟩
  · have hnone := look_none.2 (entries_none (k := x) h2 f2)
    simp only [run_findKey hkd f1, hz, Sem.run_bind, Result.andThen, Sem.run_pure, hnone]
    cases c <;> rfl
  · obtain ⟨v, _, hv, hl⟩ := entries_find hinj h2 j e0 f2 f3 h3.2.2
    simp only [run_findKey hkd f1, Sem.run_bind, Result.andThen, Sem.run_pure, hl, hv]
    cases c <;> rfl

/-- m[x] = v, x new. -/
theorem MapOf.push (h : MapOf eK eV w b l) (ht : P.underlying t = some (.map k e)) (hkd : P.underlying k = some d) (hK : ∀ x, IsKey d (eK x)) (hinj : ∀ a b, eK a = eK b → a = b)
    (x : K) (v : V) (hx : x ∉ l.map (·.1)) :
    ∃ o, (Instr.mapUpdate t (.map (some b)) (eK x) (eV v)).run P w = .ok () (setB w b o) ∧ MapOf eK eV (setB w b o) b (l ++ [(x, v)]) := by
  obtain ⟨es, ck, h1, h2, h3⟩ := h
  have hlt := heap_lt h1
  rcases findNow_spec (hK x) es.toList 0 (entries_isKey hK h2) with ⟨f1, f2⟩ | ⟨j, e0, f1, f2, f3⟩
  · refine ⟨.map (es.push { key := eK x, val := eV v, born := ck }) (ck + 1), ?_, _, _, setB_same hlt _, ?_, stamped_push h3 f2⟩
    · unfold Instr.mapUpdate
      simp only [Sem.run_bind, run_underlying ht, Result.andThen]
      have hg : (getObj b).run P w = .ok (.map es ck) w := by simp [getObj, Sem.run, h1]
      simp only [hg, Sem.run_bind, Result.andThen, run_checkKey hkd (hK x) false 9999, run_findKey hkd f1]
      simp [setObj, Sem.run, h1, setB]
    · simp [h2]
  · obtain ⟨v, hl, _⟩ := entries_find hinj h2 j e0 f2 f3 h3.2.2
    exact absurd (List.mem_map.2 ⟨(x, v), List.mem_of_getElem? hl, rfl⟩) hx

theorem map_erase {α β : Type} (f : α → β) : ∀ (l : List α) (j : Nat), (l.eraseIdx j).map f = (l.map f).eraseIdx j
  | [], _ => by simp
  | a :: l, 0 => by simp
  | a :: l, j + 1 => by simp [map_erase f l j]

theorem eraseIdx_eq_filter : ∀ (l : List (K × V)) (j : Nat) (k : K) (v : V), (l.map (·.1)).Nodup → l[j]? = some (k, v) → l.eraseIdx j = l.filter (fun p => !decide (p.1 = k))
  | [], _, _, _, _, h => by simp at h
  | p :: l, 0, k, v, hn, h => by
    simp only [List.getElem?_cons_zero, Option.some.injEq] at h
    subst h
    simp only [List.map_cons, List.nodup_cons] at hn
    rw [List.eraseIdx_zero, List.tail_cons, List.filter_cons_of_neg (by simp)]
    refine (List.filter_eq_self.2 fun q hq => ?_).symm
    have : q.1 ≠ k := fun e => hn.1 (by rw [← e]; exact List.mem_map.2 ⟨q, hq, rfl⟩)
    simp [this]
  | p :: l, j + 1, k, v, hn, h => by
    simp only [List.getElem?_cons_succ] at h
    simp only [List.map_cons, List.nodup_cons] at hn
    have : p.1 ≠ k := fun e => hn.1 (by rw [e]; exact List.mem_map.2 ⟨(k, v), List.mem_of_getElem? h, rfl⟩)
    rw [List.eraseIdx_cons_succ, eraseIdx_eq_filter l j k v hn.2 h, List.filter_cons_of_pos (by simp [this])]

/-- delete(m, x). -/
theorem MapOf.del (h : MapOf eK eV w b l) (ty : TypeId) (ht : P.underlying t = some (.map k e)) (hkd : P.underlying k = some d) (hK : ∀ x, IsKey d (eK x)) (hinj : ∀ a b, eK a = eK b → a = b) (x : K) :
    ∃ o, (Builtin.delete_ #[t, k] ty #[.map (some b), eK x]).run P w = .ok (.tuple #[]) (setB w b o) ∧ MapOf eK eV (setB w b o) b (l.filter (fun p => !decide (p.1 = x))) := by
  have hnd := h.keys_nodup
  obtain ⟨es, ck, h1, h2, h3⟩ := h
  have hlt := heap_lt h1
  have hg : (getObj b).run P w = .ok (.map es ck) w := by simp [getObj, Sem.run, h1]
  rcases findNow_spec (hK x) es.toList 0 (entries_isKey hK h2) with ⟨f1, f2⟩ | ⟨j, e0, f1, f2, f3⟩
  · refine ⟨.map es ck, ?_, _, _, setB_same hlt _, ?_, h3⟩
    · unfold Builtin.delete_
      simp only [List.getElem?_toArray, List.getElem?_cons_zero, List.getElem?_cons_succ, Sem.run_bind, run_underlying ht, Result.andThen, hg, run_checkKey hkd (hK x) es.isEmpty 9999, run_findKey hkd f1]
      simp [setObj, Sem.run, h1, setB]
    · rw [h2]
      congr 1
      refine (List.filter_eq_self.2 fun q hq => ?_).symm
      have hn := entries_none (k := x) h2 f2
      have : q.1 ≠ x := fun e => hn (by rw [← e]; exact List.mem_map.2 ⟨q, hq, rfl⟩)
      simp [this]
  · obtain ⟨v, hl, _⟩ := entries_find hinj h2 j e0 f2 f3 h3.2.2
    refine ⟨.map (es.eraseIdxIfInBounds j) ck, ?_, _, _, setB_same hlt _, ?_, stamped_erase h3 j⟩
    · unfold Builtin.delete_
      simp only [List.getElem?_toArray, List.getElem?_cons_zero, List.getElem?_cons_succ, Sem.run_bind, run_underlying ht, Result.andThen, hg, run_checkKey hkd (hK x) es.isEmpty 9999, run_findKey hkd f1]
      simp [setObj, Sem.run, h1, setB]
    · have hj : j < es.size := by have := (List.getElem?_eq_some_iff.1 f2).1; simpa using this
      have e1 : (es.eraseIdxIfInBounds j).toList = es.toList.eraseIdx j := by
        unfold Array.eraseIdxIfInBounds; rw [dif_pos hj]; simp
      rw [e1, ← eraseIdx_eq_filter l j x v hnd hl, map_erase, map_erase, h2]

theorem MapOf.len (h : MapOf eK eV w b l) (ty : TypeId) (ht : P.underlying t = some (.map k e)) : (Builtin.len_ #[t] ty #[.map (some b)]).run P w = .ok (goInt l.length) w := by
  obtain ⟨es, ck, h1, h2, h3⟩ := h
  have e1 : es.size = l.length := by have := congrArg List.length h2; simpa using this
  have hg : (getObj b).run P w = .ok (.map es ck) w := by simp [getObj, Sem.run, h1]
  unfold Builtin.len_
  simp [run_underlying ht, Result.andThen, hg, e1]

/-- What a call on one map leaves elsewhere. -/
structure Only (w w' : World) (b : Nat) : Prop where
  frm : Frm (fun x => x = b) w w'
  size : w'.heap.size = w.heap.size
  far : ∀ x, x ≠ b → w'.heap[x]? = w.heap[x]?
theorem Only.setB (w : World) (b : Nat) (o : Obj) : Only w (setB w b o) b :=
  ⟨(Frm.refl (fun x => x = b) w).setB (fun _ => rfl) o, setB_size _ _ _, fun x hx => setB_other w hx o⟩
theorem Only.blk {w w' : World} {b g : Nat} {t : TypeId} {cs : Array Value} (h : Only w w' b) (hg : Blk w g t cs) (hne : g ≠ b) : Blk w' g t cs := (h.far g hne).trans hg

/-- The store of a new key, where the walk stands at it. -/
theorem upon_push (h : MapOf eK eV w b l) (ht : P.underlying t = some (.map k e)) (hkd : P.underlying k = some d) (hK : ∀ x, IsKey d (eK x)) (hinj : ∀ a b, eK a = eK b → a = b)
    (x : K) (v : V) (hx : x ∉ l.map (·.1)) {o : Oper} {a : Act} {next : Act → World → Prop} {Q : Exit → Act → World → Prop}
    (hn : ∀ w', MapOf eK eV w' b (l ++ [(x, v)]) → Only w w' b → next (a.put o.dst undef) w') :
    Oper.upon P o a next Q (((Instr.mapUpdate t (.map (some b)) (eK x) (eV v)).run P w).andThen fun _ w' => .ok .skip w') := by
  obtain ⟨ob, h1, h2⟩ := h.push ht hkd hK hinj x v hx
  rw [h1]
  exact hn _ h2 (Only.setB _ _ _)

/-- delete, where the walk stands at it. -/
theorem upon_del (h : MapOf eK eV w b l) (ty : TypeId) (ht : P.underlying t = some (.map k e)) (hkd : P.underlying k = some d) (hK : ∀ x, IsKey d (eK x)) (hinj : ∀ a b, eK a = eK b → a = b)
    (x : K) {o : Oper} {a : Act} {next : Act → World → Prop} {Q : Exit → Act → World → Prop}
    (hn : ∀ w', MapOf eK eV w' b (l.filter (fun p => !decide (p.1 = x))) → Only w w' b → next (a.put o.dst (.tuple #[])) w') :
    Oper.upon P o a next Q (((Builtin.delete_ #[t, k] ty #[.map (some b), eK x]).run P w).andThen fun v w' => .ok (.value v) w') := by
  obtain ⟨ob, h1, h2⟩ := h.del ty ht hkd hK hinj x
  rw [h1]
  exact hn _ h2 (Only.setB _ _ _)
end
end Go.Proofs.Ytccfimgpbmkpiaa
