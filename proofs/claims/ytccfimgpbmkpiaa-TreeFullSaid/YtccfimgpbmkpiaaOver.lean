/- tree.over: pieces, with bytes written over them. Conditions: pieces in order, numbers below 2^41, at least one byte. -/
import Derived.Test.YtccfimgpbmkpiaaConcat
import Derived.Test.YtccfimgpbmkpiaaFits
import Derived.Deep.RegionHeld3
import Derived.Deep.AppendLies
import Derived.Laws.AppendOwnNone
namespace Go.Proofs.Ytccfimgpbmkpiaa
set_option linter.unusedVariables false
set_option linter.unusedSimpArgs false
set_option maxRecDepth 100000
open Go.RowKit Go.MapKept

/-- append of a row that is a call's own, nil or not. -/
theorem wpList_append_row {P : Program} {w : World} {ops : Array Oper} {rest : List Oper} {o : Oper} {a : Act} {Q : Exit → Act → World → Prop} (hgd : o.guard = none) (s x : Operand) (t : TypeId)
    (ho : o.op = .call { callee := .builtin .append, args := #[s, x], argTypes := #[t, t] })
    (base : Nat) (e : TypeId) (i : TypeInfo) (z : Value) (size bytes : Nat) (ht : P.underlying t = some (.slice e)) (hi : P.info? e = some i) (hz : i.zero = some z)
    (hsize : i.size = size) (hby : i.bytes = bytes) (hzs : z.cells.size = size) (hsz : 0 < size)
    (v : Value) (n : Nat) (xs : List Value) (hs : a.eval s = v) (hown : w.ownsRow base e size v n xs)
    (base2 : Nat) (vx : Value) (m : Nat) (news : List Value) (hx : a.eval x = vx) (hsrc : w.ownsRow base2 e size vx m news) (h1 : ∀ u ∈ news, u.oneCell' = true)
    (h63 : n + m ≤ maxLen) (hbytes : (n + m) * bytes ≤ 140737488355328) (hbase : base ≤ w.heap.size)
    (h : ∀ v' w', w'.ownsRow base e size v' (n + m) (xs ++ news) → w.grownBy w' v.ownBlock → wpList P ops Q rest (a.put o.dst v') w') : wpList P ops Q (o :: rest) a w := by
  rcases hsrc.2 with ⟨hv, h0⟩ | ⟨g, cap, cur, hv, _⟩
  · subst h0
    have : news = [] := List.eq_nil_of_length_eq_zero (by have := hsrc.1; simpa using this)
    subst this
    refine wpList_append_own_none hgd s x t ho base e i size ht hi v n xs hs hown (hx.trans hv) (h v w (by simpa using hown) ⟨rfl, rfl, rfl, Nat.le_refl _, fun _ _ _ => rfl⟩)
  · subst hv
    exact wpList_append_own w hgd s x t ho base e i z size bytes ht hi hz hsize hby hzs hsz v n xs hs hown ⟨g, 0, none⟩ m cap news hx hsrc.1 (hsrc.cells rfl) h1 h63 hbytes hbase fun v' w' a1 a2 _ => h v' w' a1 a2

theorem ownsRow_below {w w' : World} {base : Nat} {e : TypeId} {size : Nat} {v : Value} {n : Nat} {xs : List Value} (h : w.ownsRow base e size v n xs) (hb : Below w.heap.size w w') : w'.ownsRow base e size v n xs := by
  refine ⟨h.1, ?_⟩
  rcases h.2 with h2 | ⟨g, cap, cur, hv, hg, hh, r⟩
  · exact .inl h2
  · exact .inr ⟨g, cap, cur, hv, hg, (hb.block g (heap_lt hh)).trans hh, r⟩
theorem ownsRow_form {w : World} {base : Nat} {e : TypeId} {size : Nat} {v : Value} {n : Nat} {xs : List Value} (h : w.ownsRow base e size v n xs) : ∃ A c, v = .slice A n c := by
  rcases h.2 with ⟨rfl, rfl⟩ | ⟨g, cap, cur, rfl, _⟩
  · exact ⟨_, _, rfl⟩
  · exact ⟨_, _, rfl⟩
theorem pcells_one (ps : List CP) : ∀ u ∈ pcells ps, u.oneCell' = true := by
  intro u hu
  obtain ⟨p, _, hp⟩ := List.mem_flatMap.1 hu
  have : u = .int .i64 p.at_ ∨ u = p.v := by simpa using hp
  rcases this with rfl | rfl <;> rfl
theorem pcells_append (a b : List CP) : pcells (a ++ b) = pcells a ++ pcells b := by simp [pcells]

theorem partL_pos {ps : List CP} (h : PcOk ps) {f t : Int} {q : CP} (hq : q ∈ partL ps f t) : 0 < q.len ∧ q.len ≤ 2199023255552 := by
  obtain ⟨p, hp, hlt, rfl⟩ := partL_mem hq
  have := h p hp
  simp only [CP.cut]
  omega
theorem box_kept {wr w6 : World} {u v : Value} {t : TypeId} {N : Nat} (h : Below ((wr.alloc (.cells #[u, v] t)).drewN N).heap.size ((wr.alloc (.cells #[u, v] t)).drewN N) w6) :
    w6.cell? ⟨wr.heap.size, 0, none⟩ = some u ∧ w6.cell? ⟨wr.heap.size, 1, none⟩ = some v := by
  have hlt : wr.heap.size < ((wr.alloc (.cells #[u, v] t)).drewN N).heap.size := by
    show wr.heap.size < (wr.alloc (.cells #[u, v] t)).heap.size
    simp
  exact ⟨(h.cell (p := ⟨wr.heap.size, 0, none⟩) hlt).trans (World.cell?_alloc_new wr #[u, v] t 0), (h.cell (p := ⟨wr.heap.size, 1, none⟩) hlt).trans (World.cell?_alloc_new wr #[u, v] t 1)⟩
theorem box_far {w6 w7 : World} {row : Option Nat} {b : Nat} {u v : Value} {o : Obj} (hg : (w6.alloc o).grownBy w7 row) (hne : some b ≠ row) (h : w6.cell? ⟨b, 0, none⟩ = some u ∧ w6.cell? ⟨b, 1, none⟩ = some v) :
    w7.cell? ⟨b, 0, none⟩ = some u ∧ w7.cell? ⟨b, 1, none⟩ = some v := by
  have hlt := World.block_lt_of_cell? w6 _ h.1
  exact ⟨(hg.cell_far ⟨b, 0, none⟩ (by rw [World.size_alloc]; exact Nat.lt_succ_of_lt hlt) hne).trans ((World.cell?_alloc_lt w6 o ⟨b, 0, none⟩ hlt).trans h.1), (hg.cell_far ⟨b, 1, none⟩ (by rw [World.size_alloc]; exact Nat.lt_succ_of_lt hlt) hne).trans ((World.cell?_alloc_lt w6 o ⟨b, 1, none⟩ hlt).trans h.2)⟩
/-- What pieces say. -/
def cont (ps : List CP) : List (Int × List UInt8) := ps.map fun p => (p.at_, p.bs)
def mergeStep (out : List (Int × List UInt8)) (p : Int × List UInt8) : List (Int × List UInt8) :=
  match out.getLast? with
  | none => out ++ [p]
  | some q => if q.1 + (q.2.length : Int) = p.1 then out.dropLast ++ [(q.1, q.2 ++ p.2)] else out ++ [p]
def mergeV (l : List (Int × List UInt8)) : List (Int × List UInt8) := l.foldl mergeStep []

theorem BytesAt.keep8 {w w' : World} {A : Option Addr} {n c : Nat} {bs : List UInt8} (h : BytesAt w A n c bs) (hk : KeepT isB w w') : BytesAt w' A n c bs := by
  refine ⟨h.1, h.2.1, fun hn => ?_⟩
  obtain ⟨g, o, cs, t, fr, e, ⟨ht, hg⟩, hc⟩ := h.2.2 hn
  exact ⟨g, o, cs, t, fr, e, ⟨ht, hk g cs t fr ht hg⟩, hc⟩
theorem keep8_grown {w w' : World} {base : Nat} {v : Value} {n : Nat} {xs : List Value} (h : w.ownsRow base 54 2 v n xs) (hg : w.grownBy w' v.ownBlock) : KeepT isB w w' := by
  intro g cs t fr ht hh
  refine (hg.block g (heap_lt hh) fun e => ?_).trans hh
  rcases h.2 with ⟨rfl, _⟩ | ⟨g', cap, cur, rfl, _, hh', _⟩
  · cases e
  · have : g = g' := by simpa [Value.ownBlock] using e
    subst this
    rw [hh] at hh'
    injection hh' with hh'
    injection hh' with _ e2 _
    obtain rfl : t = 5 := ht
    exact absurd e2 (by decide)
theorem mergeV_snoc {l : List (Int × List UInt8)} {k : Nat} {p : Int × List UInt8} (h : l[k]? = some p) : mergeV (l.take (k + 1)) = mergeStep (mergeV (l.take k)) p := by
  unfold mergeV
  rw [List.take_add_one, h, Option.toList_some, List.foldl_append]; rfl
theorem cont_get {l : List CP} {k : Nat} {p : CP} (h : l[k]? = some p) : (cont l)[k]? = some (p.at_, p.bs) := by simp [cont, h]

theorem nil_or_snoc {α : Type} (l : List α) : l = [] ∨ ∃ i q, l = i ++ [q] := by
  rcases List.eq_nil_or_concat l with h | ⟨i, q, h⟩
  · exact .inl h
  · exact .inr ⟨i, q, by rw [h, List.concat_eq_append]⟩
theorem mergeStep_no {init : List CP} {q p : CP} (hq : q.bs.length = q.len) (h : ¬ q.at_ + (q.len : Int) = p.at_) : mergeStep (cont (init ++ [q])) (p.at_, p.bs) = cont (init ++ [q]) ++ [(p.at_, p.bs)] := by
  have : (cont (init ++ [q])).getLast? = some (q.at_, q.bs) := by simp [cont]
  unfold mergeStep
  rw [this]
  dsimp only
  rw [if_neg (by rw [hq]; exact h)]
theorem mergeStep_yes {init : List CP} {q p : CP} (hq : q.bs.length = q.len) (h : q.at_ + (q.len : Int) = p.at_) : mergeStep (cont (init ++ [q])) (p.at_, p.bs) = cont init ++ [(q.at_, q.bs ++ p.bs)] := by
  have e1 : (cont (init ++ [q])).getLast? = some (q.at_, q.bs) := by simp [cont]
  have e2 : (cont (init ++ [q])).dropLast = cont init := by simp [cont]
  unfold mergeStep
  rw [e1]
  dsimp only
  rw [if_pos (by rw [hq]; exact h), e2]
theorem bss2 {w : World} {q p : CP} (hq : BytesR w q.ad q.len q.cap q.bs) (hp : BytesR w p.ad p.len p.cap p.bs) (N : Nat) :
    BssAt ((w.drewN N).alloc (.cells #[.slice q.ad q.len q.cap, .slice p.ad p.len p.cap] 37)) (some ⟨w.heap.size, 0, none⟩) 2 [⟨q.ad, q.len, q.cap, q.bs⟩, ⟨p.ad, p.len, p.cap, p.bs⟩] := by
  have hk : KeepT (fun _ => True) w ((w.drewN N).alloc (.cells #[.slice q.ad q.len q.cap, .slice p.ad p.len p.cap] 37)) := fun g cs t fr _ hg => (Below.heap_alloc (w.drewN N) _ g (heap_lt hg)).trans hg
  refine ⟨rfl, fun _ => ⟨w.heap.size, 0, _, (0, 0), rfl, heap_alloc_new (w.drewN N) _, fun j hj => ?_⟩, fun x hx => ?_⟩
  · have : j = 0 ∨ j = 1 := by simp at hj; omega
    rcases this with rfl | rfl <;> rfl
  · have : x = ⟨q.ad, q.len, q.cap, q.bs⟩ ∨ x = ⟨p.ad, p.len, p.cap, p.bs⟩ := by simpa using hx
    rcases this with rfl | rfl
    · exact hq.keep hk
    · exact hp.keep hk
theorem concat2_any {wr : World} {u v : Value} {t : TypeId} {q p : CP} (hq : BytesR (wr.alloc (.cells #[u, v] t)) q.ad q.len q.cap q.bs) (hp : BytesR (wr.alloc (.cells #[u, v] t)) p.ad p.len p.cap p.bs) (N : Nat) (hq0 : 0 < q.len) (hp0 : 0 < p.len) (hs : q.len + p.len ≤ 2199023255552) :
    Calls Try.prog 54 #[.slice (some ⟨wr.heap.size + 1, 0, none⟩) 2 2] (((wr.alloc (.cells #[u, v] t)).drewN N).alloc (.cells #[.slice q.ad q.len q.cap, .slice p.ad p.len p.cap] 37)) fun e w6 =>
      ∃ A6 c6, e = .returned (.slice A6 (q.len + p.len) c6) ∧ BytesAt w6 A6 (q.len + p.len) c6 (q.bs ++ p.bs) ∧ Below (wr.heap.size + 1) (wr.alloc (.cells #[u, v] t)) w6 := by
  have hB := bss2 hq hp N
  rw [World.size_alloc] at hB
  have hsum : sumB [⟨q.ad, q.len, q.cap, q.bs⟩, ⟨p.ad, p.len, p.cap, p.bs⟩] = q.len + p.len := by simp [sumB]
  have hcat : catB [⟨q.ad, q.len, q.cap, q.bs⟩, ⟨p.ad, p.len, p.cap, p.bs⟩] = q.bs ++ p.bs := by simp [catB]
  have hc := concat_any (c := 2) hB (by omega) (fun x hx => by
    have : x = ⟨q.ad, q.len, q.cap, q.bs⟩ ∨ x = ⟨p.ad, p.len, p.cap, p.bs⟩ := by simpa using hx
    rcases this with rfl | rfl
    · exact hq0
    · exact hp0) (by rw [hsum]; omega) (by rw [hsum]; exact hs)
  rw [hsum, hcat] at hc
  refine hc.mono ?_
  rintro e w6 ⟨A6, c6, rfl, h1, h2⟩
  refine ⟨A6, c6, rfl, h1, ?_⟩
  have q1 : Below (wr.heap.size + 1) (wr.alloc (.cells #[u, v] t)) (((wr.alloc (.cells #[u, v] t)).drewN N).alloc (.cells #[.slice q.ad q.len q.cap, .slice p.ad p.len p.cap] 37)) :=
    (belowN (Below.refl _ _) N).alloc (by show wr.heap.size + 1 ≤ (wr.alloc _).heap.size; simp) _
  exact q1.trans (h2.mono (by have := q1.size; rw [World.size_alloc] at this; exact this))
theorem cell_kept {wr w6 : World} {o : Obj} {g i : Nat} {u : Value} (h : Below (wr.heap.size + 1) (wr.alloc o) w6) (hg : g < wr.heap.size) (hc : wr.cell? ⟨g, i, none⟩ = some u) : w6.cell? ⟨g, i, none⟩ = some u :=
  (h.cell (p := ⟨g, i, none⟩) (Nat.lt_succ_of_lt hg)).trans ((World.cell?_alloc_lt wr o ⟨g, i, none⟩ hg).trans hc)
/-- What holds of the pieces that are there so far. -/
structure OutRel (B : Nat) (wr : World) (v : Value) (outp : List CP) (l : List (Int × List UInt8)) (k : Nat) : Prop where
  own : wr.ownsRow B 54 2 v outp.length (pcells outp)
  bytes : ∀ q ∈ outp, BytesAt wr q.ad q.len q.cap q.bs ∧ 0 < q.len ∧ 0 ≤ q.at_ ∧ q.at_ + (q.len : Int) ≤ 2199023255552
  con : cont outp = mergeV (l.take k)
  len : outp.length ≤ k

theorem OutRel.app {B : Nat} {wr w6 w7 : World} {v v7 : Value} {outp : List CP} {l : List (Int × List UInt8)} {k : Nat} (h : OutRel B wr v outp l k) {p : CP} (hp : l[k]? = some (p.at_, p.bs)) (hm : mergeStep (cont outp) (p.at_, p.bs) = cont outp ++ [(p.at_, p.bs)])
    (h1 : 0 < p.len) (h2 : 0 ≤ p.at_) (h3 : p.at_ + (p.len : Int) ≤ 2199023255552) {o : Obj} (hb : Below wr.heap.size wr w6) {A6 : Option Addr} {c6 : Nat} (hB : BytesAt w6 A6 p.len c6 p.bs) (hg : (w6.alloc o).grownBy w7 v.ownBlock)
    (ho : w7.ownsRow B 54 2 v7 (outp.length + 1) (pcells outp ++ [.int .i64 p.at_, .slice A6 p.len c6])) : OutRel B w7 v7 (outp ++ [⟨p.at_, A6, p.len, c6, p.bs⟩]) l (k + 1) := by
  have hk : KeepT isB (w6.alloc o) w7 := keep8_grown ((ownsRow_below h.own hb).alloc o) hg
  have hk6 : KeepT isB w6 w7 := (KeepT.of_below ((Below.refl _ _).alloc (Nat.le_refl _) o)).trans hk
  refine ⟨?_, ?_, ?_, ?_⟩
  · rw [pcells_snoc, List.length_append]; exact ho
  · intro q hq
    rcases List.mem_append.1 hq with hq | hq
    · obtain ⟨a1, a2⟩ := h.bytes q hq
      exact ⟨a1.keep8 ((KeepT.of_below hb).trans hk6), a2⟩
    · obtain rfl : q = ⟨p.at_, A6, p.len, c6, p.bs⟩ := by simpa using hq
      exact ⟨hB.keep8 hk6, h1, h2, h3⟩
  · rw [mergeV_snoc hp, ← h.con, hm]; simp [cont]
  · rw [List.length_append]; have := h.len; simp; omega

theorem pcells_len (ps : List CP) : (pcells ps).length = ps.length * 2 := by
  induction ps with
  | nil => rfl
  | cons p ps ih => 
    have : pcells (p :: ps) = .int .i64 p.at_ :: p.v :: pcells ps := rfl
    rw [this]; simp only [List.length_cons, ih]; omega
theorem pcells_set (init : List CP) (q : CP) (u : Value) : (pcells (init ++ [q])).set (init.length * 2 + 1) u = pcells init ++ [.int .i64 q.at_, u] := by
  rw [pcells_snoc, List.set_append_right _ _ (by rw [pcells_len]; omega), pcells_len, show init.length * 2 + 1 - init.length * 2 = 1 by omega]
  rfl
theorem OutRel.mrg {B : Nat} {wr w6 : World} {g5 c5 : Nat} {init : List CP} {q : CP} {l : List (Int × List UInt8)} {k : Nat} (h : OutRel B wr (.slice (some ⟨g5, 0, none⟩) (init ++ [q]).length c5) (init ++ [q]) l k) {M : Nat} (hM : M = init.length) {p : CP} (hp : l[k]? = some (p.at_, p.bs))
    (hq : q.bs.length = q.len) (hadj : q.at_ + (q.len : Int) = p.at_) (h3 : p.at_ + (p.len : Int) ≤ 2199023255552) (hb : Below wr.heap.size wr w6) {A6 : Option Addr} {c6 : Nat} (hB : BytesAt w6 A6 (q.len + p.len) c6 (q.bs ++ p.bs)) :
    OutRel B (w6.setCell ⟨g5, M * 2 + 1, none⟩ (.slice A6 (q.len + p.len) c6)) (.slice (some ⟨g5, 0, none⟩) (M + 1) c5) (init ++ [⟨q.at_, A6, q.len + p.len, c6, q.bs ++ p.bs⟩]) l (k + 1) := by
  subst hM
  have hown := h.own
  rw [List.length_append, List.length_singleton] at hown
  have h6 := ownsRow_below hown hb
  obtain ⟨s1, s2⟩ := World.ownsRow.stored h6 (init.length * 2 + 1) (.slice A6 (q.len + p.len) c6)
  have hk : KeepT isB w6 (w6.setCell ⟨g5, init.length * 2 + 1, none⟩ (.slice A6 (q.len + p.len) c6)) := keep8_grown h6 s2
  refine ⟨?_, ?_, ?_, ?_⟩
  · rw [pcells_set] at s1
    rw [pcells_snoc, List.length_append, List.length_singleton]
    exact s1
  · intro x hx
    rcases List.mem_append.1 hx with hx | hx
    · obtain ⟨a1, a2⟩ := h.bytes x (List.mem_append.2 (.inl hx))
      exact ⟨a1.keep8 ((KeepT.of_below hb).trans hk), a2⟩
    · obtain rfl : x = ⟨q.at_, A6, q.len + p.len, c6, q.bs ++ p.bs⟩ := by simpa using hx
      obtain ⟨_, a2, a3, a4⟩ := h.bytes q (by simp)
      refine ⟨hB.keep8 hk, ?_, a3, ?_⟩
      · show 0 < q.len + p.len; omega
      · show q.at_ + ((q.len + p.len : Nat) : Int) ≤ _; omega
  · rw [mergeV_snoc hp, ← h.con, mergeStep_yes hq hadj]; simp [cont]
  · have := h.len; rw [List.length_append, List.length_singleton] at this ⊢; omega

def OverPost (w : World) (l : List (Int × List UInt8)) (e : Ending) (w' : World) : Prop :=
  ∃ A n c ps, e = .returned (.slice A n c) ∧ PcsAt w' A n c ps ∧ cont ps = mergeV l ∧ Below w.heap.size w w'

set_option maxHeartbeats 1000000 in
theorem over_any {w : World} {A : Option Addr} {m c : Nat} {ps : List CP} (h : PcsAt w A m c ps) (hm : m ≤ 524288) (hok : PcOk ps) (at_ : Int) (B : Option Addr) (n bc : Nat) (bs : List UInt8) (hB : BytesR w B n bc bs)
    (ha0 : 0 ≤ at_) (ha1 : at_ ≤ 1099511627776) (hn0 : 0 < n) (hn1 : n ≤ 1099511627776) :
    Calls Try.prog 34 #[.slice A m c, .int .i64 at_, .slice B n bc] w (OverPost w (cont (partL ps 0 at_ ++ [⟨at_, B, n, bc, bs⟩] ++ partL ps (at_ + n) 1099511627776))) := by
  obtain ⟨i0, hi, hz0, hz1, hz2⟩ := info_parts infoPiece
  have hm' := h.1
  have hl1 := partL_length ps 0 at_
  have hl2 := partL_length ps (at_ + n) 1099511627776
  have H := Lib.hid h
  have HB := Lib.hid hB
  have Hok := Lib.hid hok
  have Hm := Lib.hid hm'
  clear h hB hok
  obtain ⟨allL, hall⟩ : ∃ l, l = partL ps 0 at_ ++ [⟨at_, B, n, bc, bs⟩] ++ partL ps (at_ + n) 1099511627776 := ⟨_, rfl⟩
  rw [← hall]
  have Hall := Lib.hid hall
  clear hall
  go_enter Try.func34, Try.ntmps34
  go_wp2_with fail
  refine (part_any H.out (by omega) Hok.out 0 at_).mono ?_
  intro e w1 hp
  obtain ⟨A1, n1, c1, rfl, hpc1, hlen1, hown1, hb1⟩ := PartPost.pcs H.out hp
  have Hpc1 := Lib.hid hpc1
  have Hlen1 := Lib.hid hlen1
  have Hown1 := Lib.hid hown1
  have hn1' : n1 ≤ m := by omega
  clear hpc1 hlen1 hown1 hp
  go_wp2_with (at_builtin; go_loud (refine wpList_append_own _ rfl (.tmp 14) (.tmp 18) 51 rfl w.heap.size 54 i0 (.agg #[.int .i64 0, .slice none 0 0]) 2 32 Try.underlying51 hi hz0 hz1 hz2 rfl (by decide) _ _ _ rfl (Hown1.out.alloc _) ⟨w1.heap.size, 0, none⟩ 1 1 [.int .i64 at_, .slice B n bc] rfl rfl (cells2_new _ _ _ _) ?c2 ?c3 ?c4 ?c5 ?_))
  case c2 =>
    intro u hu
    have hu2 : u = .int .i64 at_ ∨ u = .slice B n bc := by simpa using hu
    rcases hu2 with rfl | rfl <;> rfl
  case c3 => unfold maxLen; omega
  case c4 => omega
  case c5 => have := hb1.size; simp; omega
  intro v2 w2 hown2 hgrow2 _
  have hb2 : Below w.heap.size w w2 := by
    refine (hb1.alloc hb1.size _).grown hgrow2 ?_ (fun y hy => (Hown1.out.lt y hy).1)
    have := hb1.size; simp; omega
  have Hown2 := Lib.hid hown2
  clear hown2 hgrow2
  go_wp2_with fail
  refine (part_any (H.out.keep (KeepT.of_below hb2)) (by omega) Hok.out (at_ + n) 1099511627776).mono ?_
  intro e w3 hp
  obtain ⟨A3, n3, c3, rfl, hpc3, hlen3, hown3, hb3⟩ := PartPost.pcs (H.out.keep (KeepT.of_below hb2)) hp
  have hn3' : n3 ≤ m := by omega
  have Hown3 := Lib.hid hown3
  have Hlen3 := Lib.hid hlen3
  have hb23 : Below w.heap.size w w3 := hb2.trans (hb3.mono hb2.size)
  have Hown2' := Lib.hid (ownsRow_below Hown2.out hb3)
  clear hpc3 hlen3 hown3 hp
  go_wp2_with (at_builtin; go_loud (refine wpList_append_row rfl (.tmp 20) (.tmp 26) 51 rfl w.heap.size 54 i0 (.agg #[.int .i64 0, .slice none 0 0]) 2 32 Try.underlying51 hi hz0 hz1 hz2 rfl (by decide) _ _ _ rfl Hown2'.out _ _ _ _ rfl Hown3.out (pcells_one _) ?c3 ?c4 ?c5 ?_))
  case c3 => unfold maxLen; omega
  case c4 => omega
  case c5 => exact hb23.size
  intro v4 w4 hown4 hgrow4
  have hb4 : Below w.heap.size w w4 := hb23.grown hgrow4 hb23.size (fun y hy => (Hown2'.out.lt y hy).1)
  have hall := Hall.out
  have hallb : ∀ p ∈ allL, BytesR w4 p.ad p.len p.cap p.bs ∧ (0 < p.len ∧ p.len ≤ 2199023255552) ∧ 0 ≤ p.at_ ∧ p.at_ + (p.len : Int) ≤ 2199023255552 := by
    intro p hp
    rw [hall] at hp
    simp only [List.mem_append, List.mem_singleton] at hp
    rcases hp with (hp | rfl) | hp
    · exact ⟨(part_bytes H.out.2.2.2 (KeepT.of_below hb4) _ _ p hp).r, partL_pos Hok.out hp, partL_ok Hok.out _ _ p hp⟩
    · exact ⟨HB.out.keep (KeepT.of_below hb4), ⟨hn0, by show n ≤ _; omega⟩, ha0, by show at_ + (n : Int) ≤ _; omega⟩
    · exact ⟨(part_bytes H.out.2.2.2 (KeepT.of_below hb4) _ _ p hp).r, partL_pos Hok.out hp, partL_ok Hok.out _ _ p hp⟩
  obtain ⟨A4, c4, rfl⟩ := ownsRow_form hown4
  have hpc4 : PcsR w4 A4 allL.length c4 allL := by
    have e1 : n1 + 1 + n3 = allL.length := by rw [hall, Hlen1.out, Hlen3.out]; simp; omega
    have e2 : pcells allL = pcells (partL ps 0 at_) ++ .int .i64 at_ :: .slice B n bc :: pcells (partL ps (at_ + n) 1099511627776) := by rw [hall, pcells_append, pcells_append, List.append_assoc]; rfl
    have e3 : w4.ownsRow w.heap.size 54 2 (.slice A4 allL.length c4) allL.length (pcells allL) := by
      rw [e2, ← e1]
      have := hown4
      simpa using this
    exact (PcsR.of_own e3 rfl fun p hp => (hallb p hp).1).1
  have e1 : n1 + 1 + n3 = allL.length := by rw [hall, Hlen1.out, Hlen3.out]; simp; omega
  have hn4 : allL.length ≤ 1048577 := by omega
  have Hpc4 := Lib.hid hpc4
  have Hallb := Lib.hid hallb
  rw [e1]
  clear hown4 hgrow4 hpc4 hallb hall e1 hl1 hl2 Hown1 Hlen1 Hpc1 Hown2 Hown3 Hown2' Hlen3 hb1 hb2 hb3 hb23
  go_wp2_with fail
  go_loopw [8, 30] (fun v i wr => ∃ (k : Nat) (outp : List CP), k ≤ allL.length ∧ i = .int .i64 k ∧ OutRel w4.heap.size wr v outp (cont allL) k ∧ Below w4.heap.size w4 wr) (fun _ i _ => allL.length - (intOf i).toNat)
  case atStart => exact ⟨0, [], Nat.zero_le _, rfl, ⟨World.ownsRow_nil _ _ _ _, (fun q hq => by cases hq), rfl, Nat.le_refl _⟩, Below.refl _ _⟩
  case round =>
    obtain ⟨k, outp, hk, rfl, hR, hb⟩ := hrel
    have hol := hR.len
    have hown := hR.own
    have HR := Lib.hid hR
    clear hR
    by_cases hlt : k < allL.length
    · obtain ⟨g, o, p, rfl, hp, hg, h1, h2⟩ := (Hpc4.out.keep (KeepT.of_below hb)).at_ hlt
      have hpm := List.mem_of_getElem? hp
      obtain ⟨hpb, ⟨hp0, hp1⟩, hp2, hp3⟩ := Hallb.out p hpm
      have HPB := Lib.hid (hpb.keep (KeepT.of_below (hb.alloc hb.size (.cells #[.int .i64 p.at_, .slice p.ad p.len p.cap] 54))))
      obtain ⟨A5, c5, rfl⟩ := ownsRow_form hown
      have Hown := Lib.hid (hown.alloc (.cells #[.int .i64 p.at_, .slice p.ad p.len p.cap] 54))
      have Hp := Lib.hid hp
      have hbs := hb.size
      have hne5 : some wr.heap.size ≠ (Value.slice A5 outp.length c5).ownBlock := fun e => absurd (hown.lt _ e.symm).2 (Nat.lt_irrefl _)
      rcases nil_or_snoc outp with rfl | ⟨init, q, rfl⟩
      · clear hp hpb hown
        simp only [List.length_nil]
        go_wp2_with fail
        go_quiet (fail)
        go_wp2_with fail
        go_region_held3 (fun w' => w'.cell? ⟨wr.heap.size, 0, none⟩ = some (.int .i64 p.at_) ∧ w'.cell? ⟨wr.heap.size, 1, none⟩ = some (.slice p.ad p.len p.cap)) (first | exact kb2 | exact kb1 | go_keep)
          (first
            | (go_at_call 55; refine (clone_any (bs := p.bs) ?_ hp0 hp1).mono ?_; exact HPB.out; rintro e w6 ⟨A6, c6, rfl, hBy, hbl⟩; have kb1 := box_kept hbl)
            | (refine step_append_lies _ (by rfl) _ _ _ (by rfl) w4.heap.size 54 i0 (.agg #[.int .i64 0, .slice none 0 0]) 2 32 Try.underlying51 hi hz0 hz1 hz2 rfl (by omega) _ 0 (pcells []) (by rfl) ((ownsRow_below (w := (wr.alloc (.cells #[.int .i64 p.at_, .slice p.ad p.len p.cap] 54)).drewN (nq + 1)) Hown.out hbl).alloc _) ⟨w6.heap.size, 0, none⟩ 1 1 [.int .i64 p.at_, .slice A6 p.len c6] (by rfl) (by rfl) (World.news_of_block (cs := #[.int .i64 p.at_, .slice A6 p.len c6]) (t := 54) (fr := (0, 0)) (heap_alloc_new w6 _)) (by simp [Value.oneCell']) (by omega) (by unfold maxLen; omega) (by omega) (by have := hbl.size; simp [World.drewN] at this; simp; omega) (w6.heap.size + 1) (by simp) ?_; intro gg cap w7 hown7 hgrow7 hat7 hlt7; have kb2 := box_far hgrow7 hne5 kb1))
        have hb7 : Below w4.heap.size w4 w7 := by
          have q1 := (belowN (hb.alloc hb.size (.cells #[.int .i64 p.at_, .slice p.ad p.len p.cap] 54)) (nq + 1)).trans (hbl.mono (by show w4.heap.size ≤ (wr.alloc _).heap.size; simp; omega))
          exact (q1.alloc q1.size (.cells #[.int .i64 p.at_, .slice A6 p.len c6] 54)).grown hgrow7 (by simp; have := q1.size; omega) (fun y hy => (Hown.out.lt y hy).1)
        have hbw : Below wr.heap.size wr w6 := (belowN ((Below.refl _ wr).alloc (Nat.le_refl _) (.cells #[.int .i64 p.at_, .slice p.ad p.len p.cap] 54)) (nq + 1)).trans (hbl.mono (by show wr.heap.size ≤ (wr.alloc _).heap.size; simp))
        have HR7 := Lib.hid (HR.out.app (cont_get Hp.out) rfl hp0 hp2 hp3 hbw hBy hgrow7 (by simpa using hown7))
        clear hown7 hgrow7 hat7 hlt7 kb1 kb2 hBy hbl hbw
        go_wp2_with fail
        go_roundw
        case rel => exact ⟨k + 1, _, by omega, by go_num, HR7.out, hb7⟩
        case measure => simp [intOf]; omega
      · obtain ⟨g5, c5', he5, hg50, hg51⟩ := hown.form (by simp)
        injection he5 with he5 _ he6
        subst he5 he6
        obtain ⟨x1, x2⟩ := pcells_get (init ++ [q]) init.length (by simp)
        have e1 : wr.cell? ⟨g5, init.length * 2, none⟩ = some (.int .i64 q.at_) := by
          have := hown.cells (g := g5) rfl (2 * init.length) _ x1
          rw [show (⟨g5, 0, none⟩ : Addr).add (2 * init.length) = ⟨g5, init.length * 2, none⟩ by unfold Addr.add; split <;> simp <;> omega] at this
          simpa using this
        have e2 : wr.cell? ⟨g5, init.length * 2 + 1, none⟩ = some (.slice q.ad q.len q.cap) := by
          have := hown.cells (g := g5) rfl (2 * init.length + 1) _ x2
          rw [show (⟨g5, 0, none⟩ : Addr).add (2 * init.length + 1) = ⟨g5, init.length * 2 + 1, none⟩ by unfold Addr.add; split <;> simp <;> omega] at this
          simpa [CP.v] using this
        obtain ⟨hqb, hq0, hq2, hq3⟩ := HR.out.bytes q (by simp)
        have elen : (init ++ [q]).length = init.length + 1 := by simp
        rw [elen] at Hown hne5
        rw [elen]
        have hM0 : init.length ≤ 1048577 := by have := hol; simp at this; omega
        clear hp hpb hown x1 x2 elen hol
        obtain ⟨M, hMe⟩ : ∃ M, M = init.length := ⟨_, rfl⟩
        rw [← hMe] at e1 e2 hM0 Hown hne5 ⊢
        have HM := Lib.hid hMe
        clear hMe
        have hw1 : IntKind.i64.wrap ((M : Int) + 1 - 1) = (M : Int) := by rw [IntWalk.i64_in _ (by omega)]; omega
        have hw2 : IntKind.i64.wrap (q.at_ + (q.len : Int)) = q.at_ + (q.len : Int) := IntWalk.i64_in _ (by omega)
        by_cases hadj : q.at_ + (q.len : Int) = p.at_
        · have hadj' : (q.at_ + (q.len : Int) == p.at_) = true := beq_iff_eq.2 hadj
          have Hadj := Lib.hid hadj
          clear hadj
          have hfz := (HR.out.own).frozenAt (init.length * 2 + 1)
          rw [← HM.out] at hfz
          go_wp2_with fail
          go_quiet (fail)
          go_wp2_with fail
          have hM1 : (0 : Int) ≤ (M : Int) := Int.natCast_nonneg _
          have hM2 : (M : Int) < (M : Int) + 1 := by omega
          have hM3 : ((M : Int)).toNat = M := rfl
          have hw3 : IntKind.i64.wrap (M : Int) = (M : Int) := IntWalk.i64_in _ (by omega)
          have HQB := Lib.hid (hqb.r.keep (KeepT.of_below ((Below.refl _ wr).alloc (Nat.le_refl _) (.cells #[.int .i64 p.at_, .slice p.ad p.len p.cap] 54))))
          have hqp : q.len + p.len ≤ 2199023255552 := by have := Hadj.out; omega
          go_region_with (go_at_call 54; refine (concat2_any HQB.out HPB.out _ hq0 hp0 hqp).mono ?_; rintro e w6 ⟨A6, c6, rfl, hBy, hbl⟩; have k6 := cell_kept hbl hg51 e2; have f6 := (hbl.frozen (p := ⟨g5, M * 2 + 1, none⟩) (Nat.lt_succ_of_lt hg51)).trans ((frozen?_alloc_cells _ _ _ _).trans hfz))
          all_goals
            have hbw : Below wr.heap.size wr w6 := ((Below.refl _ wr).alloc (Nat.le_refl _) (.cells #[.int .i64 p.at_, .slice p.ad p.len p.cap] 54)).trans (hbl.mono (by simp))
            have HR7 := Lib.hid (OutRel.mrg HR.out HM.out (cont_get Hp.out) hqb.1 Hadj.out hp3 hbw hBy)
            have hb7 : Below w4.heap.size w4 (w6.setCell ⟨g5, M * 2 + 1, none⟩ (.slice A6 (q.len + p.len) c6)) := (hb.trans (hbw.mono hb.size)).setCell hg50 _
            have k7 : ∀ i u, (wr.alloc (.cells #[.int .i64 p.at_, .slice p.ad p.len p.cap] 54)).cell? ⟨wr.heap.size, i, none⟩ = some u → (w6.setCell ⟨g5, M * 2 + 1, none⟩ (.slice A6 (q.len + p.len) c6)).cell? ⟨wr.heap.size, i, none⟩ = some u := fun i u hu => (World.cell?_setCell_far w6 _ _ _ (by show g5 ≠ wr.heap.size; omega)).trans ((hbl.cell (p := ⟨wr.heap.size, i, none⟩) (by simp)).trans hu)
            clear hBy hbl hbw k6 f6
            go_wp2_with fail
            go_roundw
            case rel => exact ⟨k + 1, _, by omega, by go_num, HR7.out, hb7⟩
            case measure => simp [intOf]; omega
        · have hadj' : (q.at_ + (q.len : Int) == p.at_) = false := beq_eq_false_iff_ne.2 hadj
          have Hadj := Lib.hid hadj
          clear hadj
          go_wp2_with fail
          go_quiet (fail)
          go_wp2_with fail
          go_region_held3 (fun w' => w'.cell? ⟨wr.heap.size, 0, none⟩ = some (.int .i64 p.at_) ∧ w'.cell? ⟨wr.heap.size, 1, none⟩ = some (.slice p.ad p.len p.cap)) (first | exact kb2 | exact kb1 | go_keep)
            (first
              | (go_at_call 55; refine (clone_any (bs := p.bs) ?_ hp0 hp1).mono ?_; exact HPB.out; rintro e w6 ⟨A6, c6, rfl, hBy, hbl⟩; have kb1 := box_kept hbl)
              | (refine step_append_lies _ (by rfl) _ _ _ (by rfl) w4.heap.size 54 i0 (.agg #[.int .i64 0, .slice none 0 0]) 2 32 Try.underlying51 hi hz0 hz1 hz2 rfl (by omega) _ (M + 1) (pcells (init ++ [q])) (by rfl) ((ownsRow_below (w := (wr.alloc (.cells #[.int .i64 p.at_, .slice p.ad p.len p.cap] 54)).drewN (nq + 1)) Hown.out hbl).alloc _) ⟨w6.heap.size, 0, none⟩ 1 1 [.int .i64 p.at_, .slice A6 p.len c6] (by rfl) (by rfl) (World.news_of_block (cs := #[.int .i64 p.at_, .slice A6 p.len c6]) (t := 54) (fr := (0, 0)) (heap_alloc_new w6 _)) (by simp [Value.oneCell']) (by omega) (by unfold maxLen; omega) (by omega) (by have := hbl.size; simp [World.drewN] at this; simp; omega) (w6.heap.size + 1) (by simp) ?_; intro gg cap w7 hown7 hgrow7 hat7 hlt7; have kb2 := box_far hgrow7 hne5 kb1))
          have hb7 : Below w4.heap.size w4 w7 := by
            have q1 := (belowN (hb.alloc hb.size (.cells #[.int .i64 p.at_, .slice p.ad p.len p.cap] 54)) (nq + 1)).trans (hbl.mono (by show w4.heap.size ≤ (wr.alloc _).heap.size; simp; omega))
            exact (q1.alloc q1.size (.cells #[.int .i64 p.at_, .slice A6 p.len c6] 54)).grown hgrow7 (by simp; have := q1.size; omega) (fun y hy => (Hown.out.lt y hy).1)
          have hbw : Below wr.heap.size wr w6 := (belowN ((Below.refl _ wr).alloc (Nat.le_refl _) (.cells #[.int .i64 p.at_, .slice p.ad p.len p.cap] 54)) (nq + 1)).trans (hbl.mono (by show wr.heap.size ≤ (wr.alloc _).heap.size; simp))
          have HR7 := Lib.hid (HR.out.app (cont_get Hp.out) (mergeStep_no hqb.1 Hadj.out) hp0 hp2 hp3 hbw hBy hgrow7 (by rw [List.length_append, List.length_singleton, ← HM.out]; exact hown7))
          clear hown7 hgrow7 hat7 hlt7 kb1 kb2 hBy hbl hbw
          go_wp2_with fail
          go_roundw
          case rel => exact ⟨k + 1, _, by omega, by go_num, HR7.out, hb7⟩
          case measure => simp [intOf]; omega
    · obtain rfl : k = allL.length := by omega
      have e : (cont allL).take allL.length = cont allL := List.take_of_length_le (by simp [cont])
      clear hown
      go_wp2_with fail
      go_ret
      obtain ⟨A5, c5, rfl⟩ := ownsRow_form HR.out.own
      exact ⟨A5, _, c5, outp, rfl, (PcsAt.of_own HR.out.own rfl fun q hq => (HR.out.bytes q hq).1).1, by have := HR.out.con; rw [e] at this; exact this, hb4.trans (hb.mono hb4.size)⟩
end Go.Proofs.Ytccfimgpbmkpiaa
