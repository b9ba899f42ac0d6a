/- append in a region that draws its order; rows of strings, of ints that came in. No conditions. -/
import Derived.Test.YtccfimgpbmkpiaaBunchCalls
import Derived.Deep.RegionHeld3
import Derived.Deep.AppendLies
import Derived.Laws.AppendOwnNone
namespace Go.Proofs.Ytccfimgpbmkpiaa
set_option linter.unusedVariables false
set_option linter.unusedSimpArgs false
set_option maxRecDepth 100000
open Go.RowKit Go.MapKept

/-- append onto a row of the call's own, as one step of a region that draws. -/
theorem step_append_own {P : Program} {ops : Array Oper} {o : Oper} {a : Act} {w : World} {K : Act → World → Prop} {Q : Exit → Act → World → Prop} {E : Prop}
    (hg : o.guard = none) (s x : Operand) (t : TypeId) (hop : o.op = Op.call { callee := Callee.builtin Builtin.append, args := #[s, x], argTypes := #[t, t] })
    (base : Nat) (e : TypeId) (i : TypeInfo) (z : Value) (size bytes : Nat) (ht : P.underlying t = some (.slice e)) (hi : P.info? e = some i) (hz : i.zero = some z)
    (hsize : i.size = size) (hby : i.bytes = bytes) (hzs : z.cells.size = size) (hsz : 0 < size)
    (v : Value) (n : Nat) (xs : List Value) (hs : a.eval s = v) (hown : w.ownsRow base e size v n xs)
    (ad : Addr) (m c : Nat) (news : List Value) (hx : a.eval x = .slice (some ad) m c) (hl : news.length = m * size) (hnews : ∀ j u, news[j]? = some u → w.cell? (ad.add j) = some u) (h1 : ∀ u ∈ news, u.oneCell' = true)
    (h63 : n + m ≤ maxLen) (hbytes : (n + m) * bytes ≤ 140737488355328) (hbase : base ≤ w.heap.size)
    (h : ∀ v' w', w'.ownsRow base e size v' (n + m) (xs ++ news) → w.grownBy w' v.ownBlock → (v'.ownBlock = v.ownBlock ∨ v'.ownBlock = some w.heap.size) → K (a.put o.dst v') w') :
    if Region.wanted o (yielded ops a.tmps) = true then Oper.wp P o a w K Q else E := by
  have hw : Region.wanted o (yielded ops a.tmps) = true := by simp [Region.wanted, hg]
  rw [if_pos hw]
  obtain ⟨v', w', hr, h2, h3, _, h5⟩ := run_append_own_at (P := P) w base t o.type e i z size bytes ht hi hz hsize hby hzs hsz v n xs hown ad m c news hl hnews h1 h63 hbytes hbase
  unfold Oper.wp
  simp [execOp, hop, resolve, invoke, builtin, hs, hx, hr, Result.andThen]
  exact h v' w' h2 h3 h5

/-- A row of strings. -/
def svals (l : List ByteArray) : List Value := l.map .string
theorem svals_one (l : List ByteArray) : ∀ u ∈ svals l, u.oneCell' = true := by
  intro u hu
  obtain ⟨s, _, rfl⟩ := List.mem_map.1 hu
  rfl
theorem svals_get {l : List ByteArray} {k : Nat} {s : ByteArray} (h : l[k]? = some s) : (svals l)[k]? = some (.string s) := by simp [svals, h]
theorem infoString : (Try.prog.info? 9).map (fun i => (i.zero, i.size, i.bytes)) = some (some (.string ⟨#[]⟩), 1, 16) := by kernel_rfl

/-- What a row has at a place. -/
theorem own_cell {w : World} {B : Nat} {t : TypeId} {g n c : Nat} {xs : List Value} (h : w.ownsRow B t 1 (.slice (some ⟨g, 0, none⟩) n c) n xs) {m : Nat} {u : Value} (hu : xs[m]? = some u) : w.cell? ⟨g, m, none⟩ = some u := by
  have := h.cells rfl m u hu
  rwa [Addr.add_lit, Nat.zero_add] at this
theorem own_le {w : World} {B : Nat} {t : TypeId} {n c : Nat} {A : Option Addr} {xs : List Value} (h : w.ownsRow B t 1 (.slice A n c) n xs) : n ≤ c := by
  rcases h.2 with ⟨h1, h0⟩ | ⟨g', cap, cur, h1, _, _, h2, _⟩
  · omega
  · injection h1 with _ _ e
    subst e; exact h2
theorem own_lt {w : World} {B : Nat} {t : TypeId} {g n c : Nat} {xs : List Value} (h : w.ownsRow B t 1 (.slice (some ⟨g, 0, none⟩) n c) n xs) : B ≤ g ∧ g < w.heap.size := by
  rcases h.2 with ⟨h1, h0⟩ | ⟨g', cap, cur, h1, hb, hh, h2, _⟩
  · cases h1
  · injection h1 with h1 _ _
    injection h1 with h1
    injection h1 with h1 _ _
    subst h1
    exact ⟨hb, heap_lt hh⟩

/-- A row of ints that came in. -/
def IntsAt (w : World) (A : Option Addr) (n : Nat) (zs : List Int) : Prop :=
  n ≤ zs.length ∧ (0 < n → ∃ g o, A = some ⟨g, o, none⟩ ∧ g < w.heap.size ∧ ∀ j (h : j < zs.length), j < n → w.cell? ⟨g, o + j, none⟩ = some (.int .i64 zs[j]))
theorem IntsAt.below {w w' : World} {A : Option Addr} {n : Nat} {zs : List Int} (h : IntsAt w A n zs) (hb : Below w.heap.size w w') : IntsAt w' A n zs := by
  refine ⟨h.1, fun hn => ?_⟩
  obtain ⟨g, o, e, hg, hc⟩ := h.2 hn
  exact ⟨g, o, e, Nat.lt_of_lt_of_le hg hb.size, fun j hj hjn => (hb.cell (p := ⟨g, o + j, none⟩) hg).trans (hc j hj hjn)⟩

theorem rm_erase {l : List ByteArray} (hn : l.Nodup) {k : Nat} (hk : k < l.length) : rm l[k] l = l.take k ++ l.drop (k + 1) := by
  induction l generalizing k with
  | nil => simp at hk
  | cons a l ih =>
    obtain ⟨h1, h2⟩ := List.nodup_cons.1 hn
    cases k with
    | zero =>
      have : rm a (a :: l) = rm a l := by unfold rm; simp
      simp only [List.getElem_cons_zero, List.take_zero, List.nil_append, List.drop_succ_cons, List.drop_zero]
      rw [this, rm_none h1]
    | succ k =>
      simp only [List.getElem_cons_succ, List.take_succ_cons, List.cons_append, List.drop_succ_cons]
      have hk' : k < l.length := by simpa using hk
      have hne : a ≠ l[k] := fun e => h1 (e ▸ List.getElem_mem hk')
      have : rm l[k] (a :: l) = a :: rm l[k] l := by unfold rm; simp [hne]
      rw [this, ih h2 hk']
theorem empty_row (w : World) {B : Nat} (h : B ≤ w.heap.size) : (w.alloc (.cells #[] 9)).ownsRow B 9 1 (.slice (some ⟨w.heap.size, 0, none⟩) 0 0) 0 [] := World.ownsRow_made w #[] 0 h (by decide) rfl
theorem take_cells {w : World} {B : Nat} {t : TypeId} {g n c : Nat} {l : List ByteArray} (h : w.ownsRow B t 1 (.slice (some ⟨g, 0, none⟩) n c) n (svals l)) (k : Nat) : ∀ j u, (svals (l.take k))[j]? = some u → w.cell? ((⟨g, 0, none⟩ : Addr).add j) = some u := by
  intro j u hu
  refine h.cells rfl j u ?_
  unfold svals at hu ⊢
  rw [List.map_take, List.getElem?_take] at hu
  split at hu
  · exact hu
  · cases hu
theorem drop_cells {w : World} {B : Nat} {t : TypeId} {g n c : Nat} {l : List ByteArray} (h : w.ownsRow B t 1 (.slice (some ⟨g, 0, none⟩) n c) n (svals l)) (k : Nat) : ∀ j u, (svals (l.drop k))[j]? = some u → w.cell? ((⟨g, k, none⟩ : Addr).add j) = some u := by
  intro j u hu
  have h2 : (svals l)[k + j]? = some u := by
    unfold svals at hu ⊢
    rw [List.map_drop, List.getElem?_drop] at hu
    exact hu
  have := h.cells rfl (k + j) u h2
  rw [Addr.add_lit, Nat.zero_add] at this
  rw [Addr.add_lit]
  exact this
theorem row_next {w w7 : World} {B : Nat} {t : TypeId} {g n c : Nat} {xs : List Value} (h : w.ownsRow B t 1 (.slice (some ⟨g, 0, none⟩) n c) n xs) {o : Obj} (hg : ((w.alloc o).drew).grownBy w7 (Value.slice (some ⟨w.heap.size, 0, none⟩) 0 0).ownBlock) :
    w7.ownsRow B t 1 (.slice (some ⟨g, 0, none⟩) n c) n xs := by
  have hlt := (own_lt h).2
  refine World.ownsRow.kept (w := (w.alloc o).drew) (h.alloc o) hg (.inr fun e => ?_)
  simp [Value.ownBlock] at e
  omega
theorem grown_size {w w7 : World} {o : Obj} {r : Option Nat} (hg : ((w.alloc o).drew).grownBy w7 r) : w.heap.size ≤ w7.heap.size := by
  have h : (w.alloc o).heap.size ≤ w7.heap.size := hg.size
  rw [World.size_alloc] at h
  omega
theorem drop_none {w : World} {l : List ByteArray} {k : Nat} (h : l.length ≤ k) (A : Addr) : ∀ j u, (svals (l.drop k))[j]? = some u → w.cell? (A.add j) = some u := by
  intro j u hu
  rw [List.drop_of_length_le h] at hu
  simp [svals] at hu
theorem row_tree {w6 w7 w8 : World} {A : FSA} (h : FSAt w6 A) (hg7 : ((w6.alloc (.cells #[] 9)).drew).grownBy w7 (Value.slice (some ⟨w6.heap.size, 0, none⟩) 0 0).ownBlock) {B : Nat} {v7 : Value} {n7 : Nat} {xs7 : List Value} (ho7 : w7.ownsRow B 9 1 v7 n7 xs7) (hg8 : w7.grownBy w8 v7.ownBlock) : FSAt w8 A := by
  have h1 : FSAt ((w6.alloc (.cells #[] 9)).drew) A := (h.alloc _).drew
  have h2 := h1.rowT string_row.1 string_row.2.1 string_row.2.2 (B := 0) (n := 0) (xs := []) (empty_row w6 (Nat.zero_le _)) hg7
  exact h2.rowT string_row.1 string_row.2.1 string_row.2.2 ho7 hg8
theorem row_below {w w6 w7 w8 : World} (h : Below w.heap.size w w6) (hs : w.heap.size ≤ w6.heap.size) (hg7 : ((w6.alloc (.cells #[] 9)).drew).grownBy w7 (Value.slice (some ⟨w6.heap.size, 0, none⟩) 0 0).ownBlock) {v7 : Value} {n7 : Nat} {xs7 : List Value} (ho7 : w7.ownsRow w.heap.size 9 1 v7 n7 xs7) (hg8 : w7.grownBy w8 v7.ownBlock) : Below w.heap.size w w8 := by
  have h1 : Below w.heap.size w ((w6.alloc (.cells #[] 9)).drew) := (h.alloc hs _).drew
  have h2 : Below w.heap.size w w7 := h1.grown hg7 h1.size (fun y hy => by
    simp [Value.ownBlock] at hy
    omega)
  exact h2.grown hg8 h2.size (fun y hy => (ho7.lt y hy).1)
theorem IntsAt.last {w : World} {A : Option Addr} {n : Nat} {zs : List Int} (h : IntsAt w A n zs) {k : Nat} (h0 : 0 < k) (hk : k ≤ n) : ∃ g o z, A = some ⟨g, o, none⟩ ∧ g < w.heap.size ∧ w.cell? ⟨g, o + (k - 1), none⟩ = some (.int .i64 z) := by
  obtain ⟨g, o, e, hg, hc⟩ := h.2 (by omega)
  have hl := h.1
  exact ⟨g, o, _, e, hg, hc (k - 1) (by omega) (by omega)⟩
end Go.Proofs.Ytccfimgpbmkpiaa
