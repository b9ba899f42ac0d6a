/- A slice of the laws' calls that comes in: what it is in memory. No conditions. -/
import Derived.Test.YtccfimgpbmkpiaaArgs
import Derived.Deep.Slices
import Derived.Deep.Fields
import Derived.Deep.MidRow
import Derived.ChangeSame
namespace Go.Proofs.Ytccfimgpbmkpiaa
set_option linter.unusedVariables false
set_option linter.unusedSimpArgs false
set_option maxRecDepth 100000
open Go.RowKit Go.MapKept Go.WideShapes Go.ChangeShapes

/-- A call, as it lies in memory. -/
structure OpC where
  kind : Int
  i : Int
  j : Int
  at_ : Int
  n : Int
  a : ByteArray
  b : ByteArray
  node : ANode
  ad : Option Addr
  len : Nat
  cap : Nat
  bs : List UInt8
  raw : Bool
def OpC.cells (o : OpC) : List Value :=
  [.int .i64 o.kind, .int .i64 o.i, .int .i64 o.j, .int .i64 o.at_, .int .i64 o.n, .string o.a, .string o.b,
    .int .i64 o.node.kind, .int .i64 o.node.mode, .int .i64 o.node.user, .int .i64 o.node.group, .int .i64 o.node.time, .string o.node.target, .int .i64 o.node.major, .int .i64 o.node.minor, .int .i64 o.node.size, .int .i64 o.node.links, .int .i64 o.node.change,
    .slice o.ad o.len o.cap, .bool o.raw]
/-- A number that an int may be. -/
def I64 (n : Int) : Prop := -9223372036854775808 ≤ n ∧ n ≤ 9223372036854775807
theorem I64.of_wf {n : Int} (h : (Lit.int .i64 n).wf = true) : I64 n := by
  simp only [Lit.wf, Bool.and_eq_true, decide_eq_true_eq] at h
  exact h
structure OpC.Ok (w : World) (o : OpC) : Prop where
  kind : I64 o.kind
  i : I64 o.i
  j : I64 o.j
  at_ : I64 o.at_
  n : I64 o.n
  bytes : BytesR w o.ad o.len o.cap o.bs
  lt : ∀ g o' s, o.ad = some ⟨g, o', s⟩ → 0 < o.len → g < w.heap.size
  time : I64 o.node.time
/-- Calls behind a slice. -/
def OpsAt (w : World) (A : Option Addr) (n : Nat) (ops : List OpC) : Prop :=
  ops.length = n ∧ (0 < n → ∃ g o, A = some ⟨g, o, none⟩ ∧ g < w.heap.size ∧ ∀ k (h : k < ops.length), ∀ j, j < 20 → w.cell? ⟨g, o + k * 20 + j, none⟩ = ops[k].cells[j]?) ∧ ∀ x ∈ ops, x.Ok w

theorem cells_Op : (Try.prog).cellsOf 47 = 20 := by kernel_rfl
theorem cells_Node : (Try.prog).cellsOf 29 = 11 := by kernel_rfl
theorem cells_one : (Try.prog).cellsOf 3 = 1 ∧ (Try.prog).cellsOf 9 = 1 ∧ (Try.prog).cellsOf 37 = 1 ∧ (Try.prog).cellsOf 4 = 1 := ⟨by kernel_rfl, by kernel_rfl, by kernel_rfl, by kernel_rfl⟩
theorem fields_Op : ∃ fs : Array Field, Try.prog.underlying 47 = some (.struct fs) ∧ fs.toList.map (fun f => (f.type, f.offset)) = [(3, 0), (3, 1), (3, 2), (3, 3), (3, 4), (9, 5), (9, 6), (29, 7), (37, 18), (4, 19)] := ⟨_, Try.underlying47, by kernel_rfl⟩
theorem fields_Node : ∃ fs : Array Field, Try.prog.underlying 29 = some (.struct fs) ∧ fs.toList.map (fun f => (f.type, f.offset)) = [(3, 0), (3, 1), (3, 2), (3, 3), (3, 4), (9, 5), (3, 6), (3, 7), (3, 8), (3, 9), (3, 10)] := ⟨_, Try.underlying29, by kernel_rfl⟩

theorem field_at {fs : Array Field} {l : List (TypeId × Nat)} (h : fs.toList.map (fun f => (f.type, f.offset)) = l) {j : Nat} {t : TypeId} {o : Nat} (hj : l[j]? = some (t, o)) : ∃ f, fs[j]? = some f ∧ f.type = t ∧ f.offset = o := by
  rw [← h, List.getElem?_map] at hj
  cases hf : fs.toList[j]? with
  | none => rw [hf] at hj; cases hj
  | some f =>
    rw [hf] at hj
    simp only [Option.map_some, Option.some.injEq, Prod.mk.injEq] at hj
    exact ⟨f, by rw [← Array.getElem?_toList]; exact hf, hj.1, hj.2⟩

section
variable {H : Type} {enc : TypeId × Value → H} {W : World} {b0 : Nat} {spare : Nat → Bool} {held : Bool}

/-- A field's own reading. -/
theorem field_read {t ft : TypeId} {fuel : Nat} {cs : List Value} {x : DataW H × List MemPlace} {l : List (TypeId × Nat)} (hu : ∃ fs : Array Field, Try.prog.underlying t = some (.struct fs) ∧ fs.toList.map (fun f => (f.type, f.offset)) = l)
    (h : DataW.trod enc Try.prog W b0 spare held fuel t cs = some x) {j o : Nat} (hj : l[j]? = some (ft, o)) : ∃ n y, DataW.trod enc Try.prog W b0 spare held n ft ((cs.drop o).take ((Try.prog).cellsOf ft)) = some y := by
  obtain ⟨fs, hs, hl⟩ := hu
  obtain ⟨xs, n, _, _, _, hlen, hf⟩ := DataW.trod_struct hs h
  obtain ⟨f, hfj, rfl, rfl⟩ := field_at hl hj
  have hjl : j < fs.size := (Array.getElem?_eq_some_iff.1 hfj).1
  have := hf j f hfj
  rw [List.getElem?_eq_getElem (by omega)] at this
  exact ⟨n, _, this⟩
theorem field_int {t : TypeId} {fuel : Nat} {cs : List Value} {x : DataW H × List MemPlace} {l : List (TypeId × Nat)} (hu : ∃ fs : Array Field, Try.prog.underlying t = some (.struct fs) ∧ fs.toList.map (fun f => (f.type, f.offset)) = l)
    (h : DataW.trod enc Try.prog W b0 spare held fuel t cs = some x) {j o : Nat} (hj : l[j]? = some (3, o)) : ∃ n, cs[o]? = some (.int .i64 n) ∧ I64 n := by
  obtain ⟨n, y, hy⟩ := field_read hu h hj
  rw [cells_one.1] at hy
  obtain ⟨m, hm, _, hw⟩ := DataW.trod_int Try.underlying3 hy
  refine ⟨m, ?_, I64.of_wf hw⟩
  have := congrArg (fun q : List Value => q[0]?) hm
  simpa [List.getElem?_take, List.getElem?_drop] using this
theorem field_string {t : TypeId} {fuel : Nat} {cs : List Value} {x : DataW H × List MemPlace} {l : List (TypeId × Nat)} (hu : ∃ fs : Array Field, Try.prog.underlying t = some (.struct fs) ∧ fs.toList.map (fun f => (f.type, f.offset)) = l)
    (h : DataW.trod enc Try.prog W b0 spare held fuel t cs = some x) {j o : Nat} (hj : l[j]? = some (9, o)) : ∃ s, cs[o]? = some (.string s) ∧ s.size ≤ maxLen := by
  obtain ⟨n, y, hy⟩ := field_read hu h hj
  rw [cells_one.2.1] at hy
  obtain ⟨m, hm, _, hw⟩ := DataW.trod_string Try.underlying9 hy
  refine ⟨m, ?_, hw⟩
  have := congrArg (fun q : List Value => q[0]?) hm
  simpa [List.getElem?_take, List.getElem?_drop] using this
theorem spot_none {w : World} {a : Addr} {v : Value} (h : w.cell? a = some v) : a.spot = none := by
  unfold World.cell? at h
  split at h
  · split at h
    · cases h
    · rename_i hn; simpa using hn
  · cases h
theorem cell_row {w : World} {a : Addr} {v : Value} (h : w.cell? a = some v) : ∃ cs t fr, w.heap[a.block]? = some (.cells cs t fr) ∧ cs[a.off]? = some v := by
  unfold World.cell? at h
  split at h
  · rename_i cs t fr hh
    split at h
    · cases h
    · exact ⟨cs, t, fr, hh, h⟩
  · cases h
theorem bytes_read {fuel : Nat} {v : Value} {x : DataW H × List MemPlace} (h1 : DataW.trod enc Try.prog W b0 spare held fuel 37 [v] = some x) :
    ∃ A n c bs, v = .slice A n c ∧ BytesR W A n c bs ∧ ∀ g o' s, A = some ⟨g, o', s⟩ → 0 < n → g < W.heap.size := by
  rcases open_ints Try.underlying37 Try.underlying5 cells_u8 h1 with ⟨hcs, hx⟩ | ⟨a', len', cap', zs, hcs, _, hl, hm, hz, hx, hcell, hwz⟩
  · obtain rfl : v = .slice none 0 0 := by simpa using hcs
    exact ⟨none, 0, 0, [], rfl, ⟨rfl, Nat.le_refl _, fun h => absurd h (by omega)⟩, fun _ _ _ h => by cases h⟩
  · obtain rfl : v = .slice (some a') len' cap' := by simpa using hcs
    have hlen : len' ≤ zs.length := by rw [hz]; split <;> omega
    have key : 0 < len' → ∃ cs t fr, W.heap[a'.block]? = some (.cells cs t fr) ∧ a' = ⟨a'.block, a'.off, none⟩ := by
      intro h0
      have hc := hcell 0 (by omega)
      rw [show a'.add 0 = a' from rfl] at hc
      have hsp := spot_none hc
      obtain ⟨cs, t, fr, hh, _⟩ := cell_row hc
      refine ⟨cs, t, fr, hh, ?_⟩
      cases a'; dsimp only at hsp; rw [hsp]
    refine ⟨some a', len', cap', (zs.take len').map fun n => UInt8.ofNat n.toNat, rfl, ⟨by simp; omega, hl, fun h0 => ?_⟩, fun g o' s e h0 => ?_⟩
    · obtain ⟨cs, t, fr, hh, he⟩ := key h0
      refine ⟨a'.block, a'.off, cs, t, fr, by rw [← he], ⟨trivial, hh⟩, fun j hj => ?_⟩
      simp only [List.length_map, List.length_take] at hj
      have hc := hcell j (by omega)
      rw [he, Addr.add_lit, cell_of_row W _ _ cs _ fr hh] at hc
      rw [hc]
      have hb := hwz zs[j] (List.getElem_mem (by omega))
      simp only [List.getElem_map, List.getElem_take]
      simp only [Lit.wf, Bool.and_eq_true, decide_eq_true_eq] at hb
      have hb1 : 0 ≤ zs[j]'(by omega) ∧ zs[j]'(by omega) ≤ 255 := by
        rw [show IntKind.u8.min = 0 from rfl, show IntKind.u8.max = 255 from rfl] at hb
        exact hb
      have e : zs.getD j 0 = zs[j]'(by omega) := by simp [List.getD, List.getElem?_eq_getElem (show j < zs.length by omega)]
      rw [e]
      congr 2
      rw [UInt8.toNat_ofNat']
      omega
    · obtain ⟨cs, t, fr, hh, he⟩ := key h0
      injection e with e
      have : a'.block = g := by rw [e]
      rw [← this]
      exact heap_lt hh

theorem op_read {fuel : Nat} {cs : List Value} {x : DataW H × List MemPlace} (hl : cs.length = 20) (h : DataW.trod enc Try.prog W b0 spare held fuel 47 cs = some x) : ∃ o : OpC, cs = o.cells ∧ o.Ok W := by
  obtain ⟨k0, e0, i0⟩ := field_int fields_Op h (j := 0) rfl
  obtain ⟨k1, e1, i1⟩ := field_int fields_Op h (j := 1) rfl
  obtain ⟨k2, e2, i2⟩ := field_int fields_Op h (j := 2) rfl
  obtain ⟨k3, e3, i3⟩ := field_int fields_Op h (j := 3) rfl
  obtain ⟨k4, e4, i4⟩ := field_int fields_Op h (j := 4) rfl
  obtain ⟨s5, e5, _⟩ := field_string fields_Op h (j := 5) rfl
  obtain ⟨s6, e6, _⟩ := field_string fields_Op h (j := 6) rfl
  obtain ⟨nf, y7, h7⟩ := field_read fields_Op h (j := 7) rfl
  rw [cells_Node] at h7
  obtain ⟨n0, g0, _⟩ := field_int fields_Node h7 (j := 0) rfl
  obtain ⟨n1, g1, _⟩ := field_int fields_Node h7 (j := 1) rfl
  obtain ⟨n2, g2, _⟩ := field_int fields_Node h7 (j := 2) rfl
  obtain ⟨n3, g3, _⟩ := field_int fields_Node h7 (j := 3) rfl
  obtain ⟨n4, g4, it⟩ := field_int fields_Node h7 (j := 4) rfl
  obtain ⟨n5, g5, _⟩ := field_string fields_Node h7 (j := 5) rfl
  obtain ⟨n6, g6, _⟩ := field_int fields_Node h7 (j := 6) rfl
  obtain ⟨n7, g7, _⟩ := field_int fields_Node h7 (j := 7) rfl
  obtain ⟨n8, g8, _⟩ := field_int fields_Node h7 (j := 8) rfl
  obtain ⟨n9, g9, _⟩ := field_int fields_Node h7 (j := 9) rfl
  obtain ⟨n10, g10, _⟩ := field_int fields_Node h7 (j := 10) rfl
  obtain ⟨fb, y8, h8⟩ := field_read fields_Op h (j := 8) rfl
  obtain ⟨fc, y9, h9⟩ := field_read fields_Op h (j := 9) rfl
  rw [cells_one.2.2.1] at h8
  rw [cells_one.2.2.2] at h9
  match cs, hl with
  | [c0, c1, c2, c3, c4, c5, c6, c7, c8, c9, c10, c11, c12, c13, c14, c15, c16, c17, c18, c19], _ =>
    obtain ⟨A, n, c, bs, hv, hB, hlt⟩ := bytes_read (show DataW.trod enc Try.prog W b0 spare held fb 37 [c18] = some y8 from h8)
    obtain ⟨rb, hb9, _⟩ := DataW.trod_bool Try.underlying4 (show DataW.trod enc Try.prog W b0 spare held fc 4 [c19] = some y9 from h9)
    refine ⟨⟨k0, k1, k2, k3, k4, s5, s6, ⟨n0, n1, n2, n3, n4, n5, n6, n7, n8, n9, n10⟩, A, n, c, bs, rb⟩, ?_, ⟨i0, i1, i2, i3, i4, hB, hlt, it⟩⟩
    simp only [List.drop, List.take, List.getElem?_cons_zero, List.getElem?_cons_succ, Option.some.injEq] at e0 e1 e2 e3 e4 e5 e6 g0 g1 g2 g3 g4 g5 g6 g7 g8 g9 g10
    have hc19 : c19 = .bool rb := by simpa using hb9
    unfold OpC.cells
    rw [e0, e1, e2, e3, e4, e5, e6, g0, g1, g2, g3, g4, g5, g6, g7, g8, g9, g10, hv, hc19]

theorem mkList {α : Type} {P : Nat → α → Prop} : ∀ (n : Nat), (∀ i, i < n → ∃ a, P i a) → ∃ l : List α, l.length = n ∧ ∀ i (h : i < l.length), P i l[i]
  | 0, _ => ⟨[], rfl, fun i h => absurd h (by simp)⟩
  | n + 1, h => by
    obtain ⟨l, hl, hp⟩ := mkList n fun i hi => h i (by omega)
    obtain ⟨a, ha⟩ := h n (by omega)
    refine ⟨l ++ [a], by simp [hl], fun i hi => ?_⟩
    by_cases he : i < l.length
    · rw [List.getElem_append_left he]; exact hp i he
    · have : i = l.length := by simp at hi; omega
      subst this
      rw [List.getElem_append_right (Nat.le_refl _)]
      simp [hl, ha]

/-- A slice of calls that came in. -/
theorem ops_arg {base fuel : Nat} {v : Value} {x : DataW H × List MemPlace} (hval : Value.okWide Try.prog W .any base 43 v)
    (h1 : DataW.trod enc Try.prog W b0 spare held fuel 43 v.cells.toList = some x) : ∃ A n c ops, v = .slice A n c ∧ OpsAt W A n ops ∧ n ≤ maxLen := by
  obtain ⟨a, len, cap, rfl⟩ := okWide_slice Try.underlying43 hval
  rcases Go.Deep.open_slice Try.underlying43 h1 with ⟨hcs, hx⟩ | ⟨a', len', cap', m, n, D, Pl, hcs, _, hl, hm, hmm, hx, hi⟩
  · simp [Value.cells] at hcs
    obtain ⟨rfl, rfl, rfl⟩ := hcs
    exact ⟨none, 0, 0, [], rfl, ⟨rfl, fun h => absurd h (by omega), fun x hx => by cases hx⟩, Nat.zero_le _⟩
  · simp [Value.cells] at hcs
    obtain ⟨rfl, rfl, rfl⟩ := hcs
    have hlen : len ≤ m := by rw [hmm]; split <;> omega
    rw [cells_Op] at hi
    obtain ⟨ops, hol, hop⟩ := mkList (P := fun i (o : OpC) => (∀ j, j < 20 → W.cell? ((a'.add (i * 20)).add j) = o.cells[j]?) ∧ o.Ok W) len fun i hi' => by
      obtain ⟨cs', hc, ht⟩ := hi i (by omega)
      obtain ⟨_, hcl, hat⟩ := World.cells?_some hc
      obtain ⟨o, ho, hok⟩ := op_read hcl ht
      exact ⟨o, fun j hj => by rw [hat j hj, ho], hok⟩
    refine ⟨some a', len, cap, ops, rfl, ⟨hol, fun h0 => ?_, fun x hx => ?_⟩, by omega⟩
    · have hc := (hop 0 (by omega)).1 0 (by omega)
      rw [show (a'.add (0 * 20)).add 0 = a' from rfl] at hc
      have hc2 : W.cell? a' = some (.int .i64 (ops[0]'(by omega)).kind) := hc
      have hsp := spot_none hc2
      obtain ⟨cs, t, fr, hh, _⟩ := cell_row hc2
      have he : a' = ⟨a'.block, a'.off, none⟩ := by cases a'; dsimp only at hsp; rw [hsp]
      refine ⟨a'.block, a'.off, by rw [← he], heap_lt hh, fun k hk j hj => ?_⟩
      have := (hop k hk).1 j hj
      rw [he, Addr.add_lit, Addr.add_lit] at this
      exact this
    · obtain ⟨k, hk, rfl⟩ := List.getElem_of_mem hx
      exact (hop k hk).2
end
/-- A call out of its place in a row. -/
theorem op_load {w : World} {g o : Nat} {op : OpC} (h : ∀ j, j < 20 → w.cell? ⟨g, o + j, none⟩ = op.cells[j]?) : (Instr.loadAt 47 (.pointer (some ⟨g, o, none⟩))).run Try.prog w = .ok (.agg op.cells.toArray) w := by
  refine run_loadAt_mid w g o 47 op.cells (.struct _) (fun j v hv => ?_) Try.underlying47 rfl (by rw [show op.cells.length = 20 from rfl]; kernel_rfl)
  have hj : j < 20 := (List.getElem?_eq_some_iff.1 hv).1
  rw [h j hj, hv]
theorem op_one (op : OpC) : op.cells.toArray.all (·.oneCell') = true := by
  refine all_oneCell_toArray fun v hv => ?_
  simp only [OpC.cells, List.mem_cons, List.not_mem_nil, or_false] at hv
  rcases hv with rfl | rfl | rfl | rfl | rfl | rfl | rfl | rfl | rfl | rfl | rfl | rfl | rfl | rfl | rfl | rfl | rfl | rfl | rfl | rfl <;> rfl
theorem setCells_whole {t : TypeId} {b : Nat} : ∀ (vs pre old : List Value) (w : World), w.heap[b]? = some (.cells (pre ++ old).toArray t (0, 0)) → old.length = vs.length → w.setCells b pre.length vs = setB w b (.cells (pre ++ vs).toArray t (0, 0))
  | [], pre, old, w, h, hl => by
    obtain rfl : old = [] := List.eq_nil_of_length_eq_zero hl
    have e : w.heap.setIfInBounds b (.cells (pre ++ []).toArray t (0, 0)) = w.heap := by
      apply Array.ext_getElem?
      intro i
      rw [Array.getElem?_setIfInBounds]
      by_cases hi : b = i
      · subst hi
        rw [if_pos rfl, if_pos (heap_lt h), h]
      · rw [if_neg hi]
    unfold World.setCells setB
    rw [e]
  | v :: vs, pre, old, w, h, hl => by
    match old, hl with
    | o :: old, hl =>
      rw [World.setCells]
      have hb := heap_lt h
      have h1 : (w.setCell ⟨b, pre.length, none⟩ v).heap[b]? = some (.cells ((pre ++ [v]) ++ old).toArray t (0, 0)) := by
        have : Blk w b t (pre ++ o :: old).toArray := h
        have h2 := this.set_ pre.length v
        have e : (pre ++ o :: old).toArray.setIfInBounds pre.length v = ((pre ++ [v]) ++ old).toArray := by simp
        rw [e] at h2
        exact h2
      have ih := setCells_whole vs (pre ++ [v]) old (w.setCell ⟨b, pre.length, none⟩ v) h1 (by simpa using hl)
      rw [List.length_append, List.length_singleton] at ih
      rw [ih]
      have hE : ∀ (x : Obj), setB (w.setCell ⟨b, pre.length, none⟩ v) b x = setB w b x := by
        intro x
        unfold setB World.setCell
        congr 1
        apply Array.ext_getElem?
        intro i
        rw [Array.getElem?_setIfInBounds, Array.getElem?_setIfInBounds]
        by_cases hi : b = i
        · subst hi
          rw [if_pos rfl, if_pos rfl, Array.size_modify]
        · rw [if_neg hi, if_neg hi, Array.getElem?_modify, if_neg hi]
      rw [hE, List.append_assoc, List.singleton_append]
theorem setB_alloc (w : World) (a b : Obj) : setB (w.alloc a) w.heap.size b = w.alloc b := by
  unfold setB World.alloc
  congr 1
  apply Array.ext_getElem?
  intro i
  show ((w.heap.push a).setIfInBounds w.heap.size b)[i]? = (w.heap.push b)[i]?
  rw [Array.getElem?_setIfInBounds, Array.getElem?_push, Array.getElem?_push, Array.size_push]
  by_cases hi : w.heap.size = i
  · subst hi
    rw [if_pos rfl, if_pos (by omega), if_pos rfl]
  · rw [if_neg hi, if_neg (fun e => hi e.symm), if_neg (fun e => hi e.symm)]
/-- A call into a new block. -/
theorem op_store (w : World) (op : OpC) (Z : Array Value) (hZ : Z.size = 20) : (Instr.storeAt 47 (.pointer (some ⟨w.heap.size, 0, none⟩)) (.agg op.cells.toArray)).run Try.prog (w.alloc (.cells Z 47)) = .ok () (w.alloc (.cells op.cells.toArray 47)) := by
  have hb := heap_alloc_new w (.cells Z 47)
  have hl : op.cells.toArray.size = 20 := rfl
  rw [run_storeAt_mid (P := Try.prog) (w.alloc (.cells Z 47)) w.heap.size 0 47 op.cells.toArray (fun j hj => by
    rw [hl] at hj
    refine ⟨?_, ?_⟩
    · rw [Nat.zero_add, cell_of_row _ _ _ _ _ _ hb, Array.getElem?_eq_getElem (by omega)]; rfl
    · have : Blk (w.alloc (.cells Z 47)) w.heap.size 47 Z := hb
      exact this.frozen _) (by rw [hl]; kernel_rfl) (op_one op)]
  have h2 : (w.alloc (.cells Z 47)).heap[w.heap.size]? = some (.cells (([] : List Value) ++ Z.toList).toArray 47 (0, 0)) := by simpa using hb
  have := setCells_whole op.cells [] Z.toList (w.alloc (.cells Z 47)) h2 (by simp [hZ]; rfl)
  rw [List.nil_append] at this
  rw [show (op.cells.toArray).toList = op.cells from rfl]
  show Result.ok () ((w.alloc (.cells Z 47)).setCells w.heap.size ([] : List Value).length op.cells) = _
  rw [this, setB_alloc]
theorem wpList_load_op {ops : Array Oper} {rest : List Oper} {op : Oper} {a : Act} {w : World} {Q : Exit → Act → World → Prop} (hgd : op.guard = none) (x : Operand) (ho : op.op = .load 47 x)
    (g o : Nat) (hx : a.eval x = .pointer (some ⟨g, o, none⟩)) (c : OpC) (hc : ∀ j, j < 20 → w.cell? ⟨g, o + j, none⟩ = c.cells[j]?) (h : wpList Try.prog ops Q rest (a.put op.dst (.agg c.cells.toArray)) w) : wpList Try.prog ops Q (op :: rest) a w := by
  refine wpList_plain hgd fun _ hK => ?_
  unfold Oper.wp execOp
  simp only [ho, hx]
  rw [Sem.run_bind, op_load hc]
  exact hK _ _ h
theorem wpList_store_op {ops : Array Oper} {rest : List Oper} {op : Oper} {a : Act} {wr : World} {Q : Exit → Act → World → Prop} (hgd : op.guard = none) (x y : Operand) (ho : op.op = .store 47 x y)
    (c : OpC) (Z : Array Value) (hZ : Z.size = 20) (hx : a.eval x = .pointer (some ⟨wr.heap.size, 0, none⟩)) (hy : a.eval y = .agg c.cells.toArray) (h : wpList Try.prog ops Q rest (a.put op.dst undef) (wr.alloc (.cells c.cells.toArray 47))) : wpList Try.prog ops Q (op :: rest) a (wr.alloc (.cells Z 47)) := by
  refine wpList_plain hgd fun _ hK => ?_
  unfold Oper.wp execOp
  simp only [ho, hx, hy]
  rw [Sem.run_bind, op_store wr c Z hZ]
  exact hK _ _ h
end Go.Proofs.Ytccfimgpbmkpiaa
