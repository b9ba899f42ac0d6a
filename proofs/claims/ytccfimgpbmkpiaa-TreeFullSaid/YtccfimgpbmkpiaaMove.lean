/- (*tree.FS).below and (*tree.FS).Move. Conditions: the way up from a directory comes to an end; the clock is at least 0 and below 2^62. -/
import Derived.Test.YtccfimgpbmkpiaaMake
import Derived.Deep.LoopGhost
namespace Go.Proofs.Ytccfimgpbmkpiaa
set_option linter.unusedVariables false
set_option linter.unusedSimpArgs false
set_option maxRecDepth 100000
open Go.RowKit Go.MapKept

/-- The way up from d: does it come to 'of' (true), or to the root without (false)? -/
def FSA.climb (A : FSA) (of : Int) : Nat → Int → Option Bool
  | 0, _ => none
  | k + 1, d => if d = of then some true else if d = 1 then some false else match A.node? d with | none => none | some r => A.climb of k r.up

theorem below_any {w : World} {A : FSA} (h : FSAt w A) (of d : Int) (k : Nat) (b : Bool) (hk : A.climb of k d = some b) :
    Calls Try.prog 30 #[A.fp, .int .i64 d, .int .i64 of] w fun e w' => e = .returned (.bool b) ∧ w = w' := by
  have hc := h.c
  have HK := Lib.hid hk
  have H := Lib.hid h
  clear hk h
  unfold FSA.fp
  go_enter Try.func30, Try.ntmps30
  go_wp2_with fail
  go_loopg [1] k (fun k d wr => ∃ d' : Int, d = .int .i64 d' ∧ A.climb of k d' = some b ∧ wr = w)
  case atStart => exact ⟨d, rfl, HK.out, rfl⟩
  case round =>
    obtain ⟨d', rfl, hcl, rfl⟩ := hrel
    cases gk with
    | zero => cases hcl
    | succ j =>
      have HC := Lib.hid hcl
      clear hcl HK
      by_cases h1 : d' = of
      · have hb : b = true := by have := HC.out; unfold FSA.climb at this; rw [if_pos h1] at this; injection this with this; exact this.symm
        subst hb
        have h1' : (d' != of) = false := by simp [h1]
        have H1 := Lib.hid h1
        clear h1
        go_wp2_with fail
        go_ret
        exact ⟨rfl, rfl⟩
      · have h1' : (d' != of) = true := by simp [h1]
        have H1 := Lib.hid h1
        clear h1
        by_cases h2 : d' = 1
        · have hb : b = false := by have := HC.out; unfold FSA.climb at this; rw [if_neg H1.out, if_pos h2] at this; injection this with this; exact this.symm
          subst hb
          have h2' : (d' == 1) = true := by simp [h2]
          have H2 := Lib.hid h2
          clear h2
          go_wp2_with fail
          go_ret
          exact ⟨rfl, rfl⟩
        · have h2' : (d' == 1) = false := by simp [h2]
          have H2 := Lib.hid h2
          clear h2
          cases hr : A.node? d' with
          | none => exact absurd HC.out (by unfold FSA.climb; rw [if_neg H1.out, if_neg H2.out, hr]; simp)
          | some r =>
            have hn := (H.out.at_ hr).c
            have hl := H.out.look_some hr
            have HR := Lib.hid hr
            clear hr
            go_wp2_with fail
            go_roundg j
            case measure => omega
            case rel => exact ⟨_, rfl, by have := HC.out; unfold FSA.climb at this; rw [if_neg H1.out, if_neg H2.out, HR.out] at this; exact this, rfl⟩

/-! MOVE -/

theorem Below.drewN {B : Nat} {a w : World} (h : Below B a w) (n : Nat) : Below B a (w.drewN n) := ⟨h.os, h.tape, h.output, h.size, h.block⟩
theorem FSAt.drewN {w : World} {A : FSA} (h : FSAt w A) (n : Nat) : FSAt (w.drewN n) A := h.keep (fun _ _ => rfl) (fun _ _ _ _ _ h => h)

set_option maxHeartbeats 1000000 in
theorem move_e1 {w : World} {A : FSA} (h : FSAt w A) {dir to : Int} {part as_ : ByteArray} (hd : A.node? dir = none) (ht : A.node? to = none) :
    Calls Try.prog 11 #[A.fp, .int .i64 dir, .string part, .int .i64 to, .string as_] w fun e w' => e = .returned (.int .i64 10) ∧ Below w.heap.size w w' := by
  have hc := h.c
  have hl1 := h.drew.look_none hd
  have hl2 := h.drew.look_none ht
  clear hd ht h
  unfold FSA.fp
  go_enter Try.func11, Try.ntmps11
  go_wp2_with fail
  go_region
  go_wp2_with fail
  go_ret
  exact ⟨rfl, (Below.refl _ _).drew⟩

set_option maxHeartbeats 1000000 in
theorem move_e1a {w : World} {A : FSA} (h : FSAt w A) {dir to : Int} {part as_ : ByteArray} {t : NodeR} (hd : A.node? dir = none) (ht : A.node? to = some t) :
    Calls Try.prog 11 #[A.fp, .int .i64 dir, .string part, .int .i64 to, .string as_] w fun e w' => e = .returned (.int .i64 10) ∧ Below w.heap.size w w' := by
  have hc := h.c
  have hl1 := h.drew.look_none hd
  have hl2 := h.drew.look_some ht
  have hn2 := (h.at_ ht).c
  clear hd ht h
  unfold FSA.fp
  go_enter Try.func11, Try.ntmps11
  go_wp2_with fail
  go_region
  go_wp2_with fail
  go_ret
  exact ⟨rfl, (Below.refl _ _).drew⟩

set_option maxHeartbeats 1000000 in
theorem move_e1b {w : World} {A : FSA} (h : FSAt w A) {dir to : Int} {part as_ : ByteArray} {d : NodeR} (hd : A.node? dir = some d) (ht : A.node? to = none) :
    Calls Try.prog 11 #[A.fp, .int .i64 dir, .string part, .int .i64 to, .string as_] w fun e w' => e = .returned (.int .i64 10) ∧ Below w.heap.size w w' := by
  have hc := h.c
  have hl1 := h.drew.look_some hd
  have hn1 := (h.at_ hd).c
  have hl2 := h.drew.look_none ht
  clear hd ht h
  unfold FSA.fp
  go_enter Try.func11, Try.ntmps11
  go_wp2_with fail
  go_region
  go_wp2_with fail
  go_ret
  exact ⟨rfl, (Below.refl _ _).drew⟩

set_option maxHeartbeats 1000000 in
theorem move_e2 {w : World} {A : FSA} (h : FSAt w A) {dir to : Int} {part as_ : ByteArray} {d t : NodeR} (hd : A.node? dir = some d) (ht : A.node? to = some t) (hk : d.n.kind ≠ 6) :
    Calls Try.prog 11 #[A.fp, .int .i64 dir, .string part, .int .i64 to, .string as_] w fun e w' => e = .returned (.int .i64 12) ∧ Below w.heap.size w w' := by
  have hc := h.c
  have hl1 := h.drew.look_some hd
  have hn1 := (h.at_ hd).c
  have hl2 := h.drew.look_some ht
  have hn2 := (h.at_ ht).c
  have k1 : (d.n.kind == 6) = false := beq_eq_false_iff_ne.2 hk
  have k1' : (d.n.kind != 6) = true := by simp [hk]
  clear hd ht h hk
  unfold FSA.fp
  go_enter Try.func11, Try.ntmps11
  go_wp2_with fail
  go_region
  go_wp2_with fail
  go_ret
  exact ⟨rfl, (Below.refl _ _).drew⟩

set_option maxHeartbeats 1000000 in
theorem move_e2b {w : World} {A : FSA} (h : FSAt w A) {dir to : Int} {part as_ : ByteArray} {d t : NodeR} (hd : A.node? dir = some d) (ht : A.node? to = some t) (hk : d.n.kind = 6) (hk2 : t.n.kind ≠ 6) :
    Calls Try.prog 11 #[A.fp, .int .i64 dir, .string part, .int .i64 to, .string as_] w fun e w' => e = .returned (.int .i64 12) ∧ Below w.heap.size w w' := by
  have hc := h.c
  have hl1 := h.drew.look_some hd
  have hn1 := (h.at_ hd).c
  have hl2 := h.drew.look_some ht
  have hn2 := (h.at_ ht).c
  have k1 : (d.n.kind == 6) = true := beq_iff_eq.2 hk
  have k1' : (d.n.kind != 6) = false := by simp [hk]
  have k2 : (t.n.kind == 6) = false := beq_eq_false_iff_ne.2 hk2
  have k2' : (t.n.kind != 6) = true := by simp [hk2]
  clear hd ht h hk hk2
  unfold FSA.fp
  go_enter Try.func11, Try.ntmps11
  go_wp2_with fail
  go_region
  go_wp2_with fail
  go_ret
  exact ⟨rfl, (Below.refl _ _).drew⟩

set_option maxHeartbeats 1000000 in
theorem move_e3 {w : World} {A : FSA} (h : FSAt w A) {dir to : Int} {part as_ : ByteArray} {d t : NodeR} (hd : A.node? dir = some d) (ht : A.node? to = some t) (hk : d.n.kind = 6) (hk2 : t.n.kind = 6) (ho : nameOk part = false) :
    Calls Try.prog 11 #[A.fp, .int .i64 dir, .string part, .int .i64 to, .string as_] w fun e w' => e = .returned (.int .i64 9) ∧ Below w.heap.size w w' := by
  have hc := h.c
  have hl1 := h.drew.look_some hd
  have hn1 := (h.at_ hd).c
  have hl2 := h.drew.look_some ht
  have hn2 := (h.at_ ht).c
  have k1 : (d.n.kind == 6) = true := beq_iff_eq.2 hk
  have k1' : (d.n.kind != 6) = false := by simp [hk]
  have k2 : (t.n.kind == 6) = true := beq_iff_eq.2 hk2
  have k2' : (t.n.kind != 6) = false := by simp [hk2]
  have HO1 := Lib.hid ho
  have HO2 := Lib.hid ho
  clear hd ht h hk hk2 ho
  unfold FSA.fp
  go_enter Try.func11, Try.ntmps11
  go_wp2_with fail
  go_region
  go_wp2_with (go_at_call 29; refine (ok_any _ _).mono ?_; rintro e w' ⟨rfl, rfl⟩; first | rw [HO1.out] | rw [HO2.out])
  go_ret
  exact ⟨rfl, (Below.refl _ _).drew⟩

set_option maxHeartbeats 1000000 in
theorem move_e3b {w : World} {A : FSA} (h : FSAt w A) {dir to : Int} {part as_ : ByteArray} {d t : NodeR} (hd : A.node? dir = some d) (ht : A.node? to = some t) (hk : d.n.kind = 6) (hk2 : t.n.kind = 6) (ho : nameOk part = true) (ho2 : nameOk as_ = false) :
    Calls Try.prog 11 #[A.fp, .int .i64 dir, .string part, .int .i64 to, .string as_] w fun e w' => e = .returned (.int .i64 9) ∧ Below w.heap.size w w' := by
  have hc := h.c
  have hl1 := h.drew.look_some hd
  have hn1 := (h.at_ hd).c
  have hl2 := h.drew.look_some ht
  have hn2 := (h.at_ ht).c
  have k1 : (d.n.kind == 6) = true := beq_iff_eq.2 hk
  have k1' : (d.n.kind != 6) = false := by simp [hk]
  have k2 : (t.n.kind == 6) = true := beq_iff_eq.2 hk2
  have k2' : (t.n.kind != 6) = false := by simp [hk2]
  have HO1 := Lib.hid ho
  have HO2 := Lib.hid ho2
  clear hd ht h hk hk2 ho ho2
  unfold FSA.fp
  go_enter Try.func11, Try.ntmps11
  go_wp2_with fail
  go_region
  go_wp2_with (go_at_call 29; refine (ok_any _ _).mono ?_; rintro e w' ⟨rfl, rfl⟩; first | rw [HO1.out] | rw [HO2.out])
  go_ret
  exact ⟨rfl, (Below.refl _ _).drew⟩

set_option maxHeartbeats 1000000 in
theorem move_e4 {w : World} {A : FSA} (h : FSAt w A) {dir to : Int} {part as_ : ByteArray} {d t : NodeR} (hd : A.node? dir = some d) (ht : A.node? to = some t) (hk : d.n.kind = 6) (hk2 : t.n.kind = 6) (ho : nameOk part = true) (ho2 : nameOk as_ = true) (hp : look d.names part = none) :
    Calls Try.prog 11 #[A.fp, .int .i64 dir, .string part, .int .i64 to, .string as_] w fun e w' => e = .returned (.int .i64 10) ∧ Below w.heap.size w w' := by
  have hc := h.c
  have hl1 := h.drew.look_some hd
  have hn1 := (h.at_ hd).c
  have hl2 := h.drew.look_some ht
  have hn2 := (h.at_ ht).c
  have k1 : (d.n.kind == 6) = true := beq_iff_eq.2 hk
  have k1' : (d.n.kind != 6) = false := by simp [hk]
  have k2 : (t.n.kind == 6) = true := beq_iff_eq.2 hk2
  have k2' : (t.n.kind != 6) = false := by simp [hk2]
  have HO1 := Lib.hid ho
  have HO2 := Lib.hid ho2
  obtain ⟨db, hdb⟩ := (h.at_ hd).nm_of hk
  obtain ⟨tb, htb⟩ := (h.at_ ht).nm_of hk2
  rw [hdb] at hn1
  rw [htb] at hn2
  have hm1 := (h.drew.at_ hd).lookup hdb part true
  have hm2 := (h.drew.at_ ht).lookup htb as_ true
  simp only [if_true] at hm1 hm2
  simp only [hp, Option.getD_none, Option.isSome_none] at hm1
  clear hd ht h hk hk2 ho ho2 hdb htb hp hm2
  unfold FSA.fp
  go_enter Try.func11, Try.ntmps11
  go_wp2_with fail
  go_region
  go_wp2_with (go_at_call 29; refine (ok_any _ _).mono ?_; rintro e w' ⟨rfl, rfl⟩; first | rw [HO1.out] | rw [HO2.out])
  go_ret
  exact ⟨rfl, (Below.refl _ _).drew⟩

set_option maxHeartbeats 1000000 in
theorem move_e5 {w : World} {A : FSA} (h : FSAt w A) {dir to : Int} {part as_ : ByteArray} {d t : NodeR} (hd : A.node? dir = some d) (ht : A.node? to = some t) (hk : d.n.kind = 6) (hk2 : t.n.kind = 6) (ho : nameOk part = true) (ho2 : nameOk as_ = true) {ino j : Int} (hp : look d.names part = some ino) (ha : look t.names as_ = some j) :
    Calls Try.prog 11 #[A.fp, .int .i64 dir, .string part, .int .i64 to, .string as_] w fun e w' => e = .returned (.int .i64 11) ∧ Below w.heap.size w w' := by
  have hc := h.c
  have hl1 := h.drew.look_some hd
  have hn1 := (h.at_ hd).c
  have hl2 := h.drew.look_some ht
  have hn2 := (h.at_ ht).c
  have k1 : (d.n.kind == 6) = true := beq_iff_eq.2 hk
  have k1' : (d.n.kind != 6) = false := by simp [hk]
  have k2 : (t.n.kind == 6) = true := beq_iff_eq.2 hk2
  have k2' : (t.n.kind != 6) = false := by simp [hk2]
  have HO1 := Lib.hid ho
  have HO2 := Lib.hid ho2
  obtain ⟨db, hdb⟩ := (h.at_ hd).nm_of hk
  obtain ⟨tb, htb⟩ := (h.at_ ht).nm_of hk2
  rw [hdb] at hn1
  rw [htb] at hn2
  have hm1 := (h.drew.at_ hd).lookup hdb part true
  have hm2 := (h.drew.at_ ht).lookup htb as_ true
  simp only [if_true] at hm1 hm2
  simp only [hp, Option.getD_some, Option.isSome_some] at hm1
  simp only [ha, Option.getD_some, Option.isSome_some] at hm2
  clear hd ht h hk hk2 ho ho2 hdb htb hp ha
  unfold FSA.fp
  go_enter Try.func11, Try.ntmps11
  go_wp2_with fail
  go_region
  go_wp2_with (go_at_call 29; refine (ok_any _ _).mono ?_; rintro e w' ⟨rfl, rfl⟩; first | rw [HO1.out] | rw [HO2.out])
  go_ret
  exact ⟨rfl, (Below.refl _ _).drew⟩

set_option maxHeartbeats 1000000 in
theorem move_e6 {w : World} {A : FSA} (h : FSAt w A) {dir to : Int} {part as_ : ByteArray} {d t : NodeR} (hd : A.node? dir = some d) (ht : A.node? to = some t) (hk : d.n.kind = 6) (hk2 : t.n.kind = 6) (ho : nameOk part = true) (ho2 : nameOk as_ = true) {ino : Int} (hp : look d.names part = some ino) (ha : look t.names as_ = none) {x : NodeR} (hx : A.node? ino = some x) (hxk : x.n.kind = 6) {k : Nat} (hcl : A.climb ino k to = some true) :
    Calls Try.prog 11 #[A.fp, .int .i64 dir, .string part, .int .i64 to, .string as_] w fun e w' => e = .returned (.int .i64 13) ∧ Below w.heap.size w w' := by
  have hc := h.c
  have hl1 := h.drew.look_some hd
  have hn1 := (h.at_ hd).c
  have hl2 := h.drew.look_some ht
  have hn2 := (h.at_ ht).c
  have k1 : (d.n.kind == 6) = true := beq_iff_eq.2 hk
  have k1' : (d.n.kind != 6) = false := by simp [hk]
  have k2 : (t.n.kind == 6) = true := beq_iff_eq.2 hk2
  have k2' : (t.n.kind != 6) = false := by simp [hk2]
  have HO1 := Lib.hid ho
  have HO2 := Lib.hid ho2
  obtain ⟨db, hdb⟩ := (h.at_ hd).nm_of hk
  obtain ⟨tb, htb⟩ := (h.at_ ht).nm_of hk2
  rw [hdb] at hn1
  rw [htb] at hn2
  have hm1 := (h.drew.at_ hd).lookup hdb part true
  have hm2 := (h.drew.at_ ht).lookup htb as_ true
  simp only [if_true] at hm1 hm2
  simp only [hp, Option.getD_some, Option.isSome_some] at hm1
  simp only [ha, Option.getD_none, Option.isSome_none] at hm2
  have hl3 := h.drew.look_some hx
  have hn3 := (h.at_ hx).c
  have k3 : (x.n.kind == 6) = true := beq_iff_eq.2 hxk
  have cB := below_any h.drew ino to k true hcl
  unfold FSA.fp at cB
  clear hd ht h hk hk2 ho ho2 hdb htb hp ha hxk hx hcl
  unfold FSA.fp
  go_enter Try.func11, Try.ntmps11
  go_wp2_with fail
  go_region
  go_wp2_with (first | (go_at_call 30; refine cB.mono ?_; rintro e w' ⟨rfl, rfl⟩) | (go_at_call 29; refine (ok_any _ _).mono ?_; rintro e w' ⟨rfl, rfl⟩; first | rw [HO1.out] | rw [HO2.out]))
  go_ret
  exact ⟨rfl, (Below.refl _ _).drew⟩

theorem updB_ex {A : FSA} {k : Int} {r : NodeR} (hr : A.node? k = some r) (b : Nat) {f : NodeR → NodeR} {i : Nat} {v : Value} (T : Turns f i v) : ∃ r', (A.updB b f).node? k = some r' ∧ r'.blk = r.blk ∧ r'.nm = r.nm ∧ r'.names = r.names := by
  rw [updB_node, hr]
  refine ⟨_, rfl, ?_⟩
  dsimp only
  split
  · exact ⟨T.blk r, T.nm r, T.names r⟩
  · exact ⟨rfl, rfl, rfl⟩
theorem updN_ex {A : FSA} {k : Int} {r : NodeR} (hr : A.node? k = some r) (b : Nat) (g : List (ByteArray × Int) → List (ByteArray × Int)) : ∃ r', (A.updN b g).node? k = some r' ∧ r'.blk = r.blk ∧ r'.nm = r.nm ∧ (r'.names = r.names ∨ r'.names = g r.names) := by
  rw [updN_node, hr]
  refine ⟨_, rfl, ?_⟩
  dsimp only
  split
  · exact ⟨rfl, rfl, .inr rfl⟩
  · exact ⟨rfl, rfl, .inl rfl⟩
theorem ptrs22 (w : World) (a b : Nat) : PtrsAt (w.alloc (.cells #[.pointer (some ⟨a, 0, none⟩), .pointer (some ⟨b, 0, none⟩)] 69)) (some ⟨w.heap.size, 0, none⟩) 2 [a, b] := by
  refine ⟨rfl, fun _ => ⟨w.heap.size, 0, _, (0, 0), rfl, heap_alloc_new w _, fun j hj => ?_⟩⟩
  have : j = 0 ∨ j = 1 := by simp at hj; omega
  rcases this with rfl | rfl <;> rfl
theorem ptrs21 (w : World) (a b c : Nat) : PtrsAt ((w.alloc (.cells #[.pointer (some ⟨a, 0, none⟩), .pointer (some ⟨b, 0, none⟩)] 69)).alloc (.cells #[.pointer (some ⟨c, 0, none⟩)] 69)) (some ⟨w.heap.size + 1, 0, none⟩) 1 [c] := by
  have := ptrs1 (w.alloc (.cells #[.pointer (some ⟨a, 0, none⟩), .pointer (some ⟨b, 0, none⟩)] 69)) c
  rwa [World.size_alloc] at this

/-- The tree behind Move. -/
def FSA.moved (A : FSA) (d t x : NodeR) (db tb : Nat) (part as_ : ByteArray) (to ino : Int) : FSA :=
  ((((if x.n.kind = 6 then A.updB x.blk (setUp to) else A).updN db fun l => l.filter fun p => !decide (p.1 = part)).updN tb fun l => l ++ [(as_, ino)]).tick [d.blk, t.blk] [x.blk])
def MovedPost (A : FSA) (d t x : NodeR) (w : World) (part as_ : ByteArray) (to ino : Int) (e : Ending) (w' : World) : Prop :=
  e = .returned (.int .i64 0) ∧ ∃ db tb, d.nm = some db ∧ t.nm = some tb ∧ FSAt w' (A.moved d t x db tb part as_ to ino) ∧ Frm A.owns w w'

set_option maxHeartbeats 2000000 in
theorem move_dir {w : World} {A : FSA} (h : FSAt w A) {dir to : Int} {part as_ : ByteArray} {d t : NodeR} (hd : A.node? dir = some d) (ht : A.node? to = some t) (hk : d.n.kind = 6) (hk2 : t.n.kind = 6) (ho : nameOk part = true) (ho2 : nameOk as_ = true) {ino : Int} (hp : look d.names part = some ino) (ha : look t.names as_ = none) {x : NodeR} (hx : A.node? ino = some x) (hxk : x.n.kind = 6) {k : Nat} (hcl : A.climb ino k to = some false) (hck0 : 0 ≤ A.clock) (hck1 : A.clock < 4611686018427387904) :
    Calls Try.prog 11 #[A.fp, .int .i64 dir, .string part, .int .i64 to, .string as_] w (MovedPost A d t x w part as_ to ino) := by
  have hc := h.c
  have hl1 := h.drew.look_some hd
  have hn1 := (h.at_ hd).c
  have hl2 := h.drew.look_some ht
  have hn2 := (h.at_ ht).c
  have k1 : (d.n.kind == 6) = true := beq_iff_eq.2 hk
  have k1' : (d.n.kind != 6) = false := by simp [hk]
  have k2 : (t.n.kind == 6) = true := beq_iff_eq.2 hk2
  have k2' : (t.n.kind != 6) = false := by simp [hk2]
  have HO1 := Lib.hid ho
  have HO2 := Lib.hid ho2
  obtain ⟨db, hdb⟩ := (h.at_ hd).nm_of hk
  obtain ⟨tb, htb⟩ := (h.at_ ht).nm_of hk2
  rw [hdb] at hn1
  rw [htb] at hn2
  have hm1 := (h.drew.at_ hd).lookup hdb part true
  have hm2 := (h.drew.at_ ht).lookup htb as_ true
  simp only [if_true] at hm1 hm2
  simp only [hp, Option.getD_some, Option.isSome_some] at hm1
  simp only [ha, Option.getD_none, Option.isSome_none] at hm2
  have hl3 := h.drew.look_some hx
  have hn3 := (h.at_ hx).c
  have k3 : (x.n.kind == 6) = true := beq_iff_eq.2 hxk
  have cB := below_any h.drew ino to k false hcl
  unfold FSA.fp at cB
  have Hxk := Lib.hid hxk
  have H := Lib.hid h
  have Hd := Lib.hid hd
  have Ht := Lib.hid ht
  have Hx := Lib.hid hx
  have Hdb := Lib.hid hdb
  have Htb := Lib.hid htb
  have Ha := Lib.hid ha
  have hxf := (h.at_ hx).f
  clear hd ht h hk hk2 ho ho2 hdb htb hp ha hx hxk hcl
  unfold FSA.fp
  go_enter Try.func11, Try.ntmps11
  go_wp2_with fail
  go_region
  go_wp2_with (first | (go_at_call 30; refine cB.mono ?_; rintro e w' ⟨rfl, rfl⟩) | (go_at_call 29; refine (ok_any _ _).mono ?_; rintro e w' ⟨rfl, rfl⟩; first | rw [HO1.out] | rw [HO2.out]))
  have hA1 : FSAt (w.setCell ⟨x.blk, 13, none⟩ (.int .i64 to)).drew (A.updB x.blk (setUp to)) := (H.out.store' (H.out.at_ Hx.out).blk (turns_up to) (fun _ => ⟨rfl, rfl, rfl, rfl⟩)).drew
  obtain ⟨d1, hd1, ed1, ed2, ed3⟩ : ∃ r', ((A.updB x.blk (setUp to))).node? dir = some r' ∧ r'.blk = d.blk ∧ r'.nm = d.nm ∧ r'.names = d.names := updB_ex Hd.out _ (turns_up to)
  obtain ⟨t1, ht1, et1, et2, et3⟩ : ∃ r', ((A.updB x.blk (setUp to))).node? to = some r' ∧ r'.blk = t.blk ∧ r'.nm = t.nm ∧ r'.names = t.names := updB_ex Ht.out _ (turns_up to)
  obtain ⟨x1, hx1, ex1⟩ : ∃ r', ((A.updB x.blk (setUp to))).node? ino = some r' ∧ r'.blk = x.blk := (updB_ex Hx.out x.blk (turns_up to)).imp fun _ h => ⟨h.1, h.2.1⟩
  refine upon_del ((hA1.at_ hd1).nm db (ed2.trans Hdb.out)) 0 Try.underlying70 Try.underlying9 eStr_key eStr_inj part ?_
  intro w2 hm2' ho2'
  have h2 := hA1.names hd1 (ed2.trans Hdb.out) (g := fun l => l.filter fun p => !decide (p.1 = part)) hm2' ho2'
  have f2 := ho2'.frm
  obtain ⟨d2, hd2, fd1, fd2, fd3⟩ := updN_ex hd1 db (fun l => l.filter fun p => !decide (p.1 = part))
  obtain ⟨t2, ht2, ft1, ft2, ft3⟩ := updN_ex ht1 db (fun l => l.filter fun p => !decide (p.1 = part))
  obtain ⟨x2, hx2, fx1, fx2, fx3⟩ := updN_ex hx1 db (fun l => l.filter fun p => !decide (p.1 = part))
  have hnew2 : look t2.names as_ = none := by
    rcases ft3 with e | e
    · rw [e, et3]; exact Ha.out
    · rw [e, look_filter, et3, Ha.out]; split <;> rfl
  have hc11 : w2.cell? ⟨t.blk, 11, none⟩ = some (.map (some tb)) := by
    have := (h2.at_ ht2).c 11
    rw [ft1, et1] at this
    rw [this, ft2, et2, Htb.out]; rfl
  have HH2 := Lib.hid h2
  have Hd2 := Lib.hid (And.intro hd2 (fd1.trans ed1))
  have Ht2 := Lib.hid (And.intro ht2 (And.intro (ft1.trans et1) (ft2.trans (et2.trans Htb.out))))
  have Hx2 := Lib.hid (And.intro hx2 (fx1.trans ex1))
  have Hnew2 := Lib.hid hnew2
  have HF2 := Lib.hid f2
  clear hc hl1 hl2 k1 k1' k2 k2' hn1 hn2 hm1 hm2 hl3 hn3 hxf hA1 hd1 ed1 ed2 ed3 ht1 et1 et2 et3 hx1 ex1 hm2' ho2' h2 f2 hd2 fd1 fd2 fd3 ht2 ft1 ft2 ft3 hx2 fx1 fx2 fx3 hnew2 k3
  go_wp2_with fail
  refine upon_push ((HH2.out.at_ Ht2.out.1).nm tb Ht2.out.2.2) Try.underlying70 Try.underlying9 eStr_key eStr_inj as_ ino (look_none.1 Hnew2.out) ?_
  intro w3 hm3 ho3
  have h3 := HH2.out.names Ht2.out.1 Ht2.out.2.2 (g := fun l => l ++ [(as_, ino)]) hm3 ho3
  obtain ⟨d3, hd3, gd1, _⟩ := updN_ex Hd2.out.1 tb (fun l => l ++ [(as_, ino)])
  obtain ⟨t3, ht3, gt1, _⟩ := updN_ex Ht2.out.1 tb (fun l => l ++ [(as_, ino)])
  obtain ⟨x3, hx3, gx1, _⟩ := updN_ex Hx2.out.1 tb (fun l => l ++ [(as_, ino)])
  have id3 : IsNode w3 d.blk := by have := IsNode.of (h3.at_ hd3); rwa [gd1, Hd2.out.2] at this
  have it3 : IsNode w3 t.blk := by have := IsNode.of (h3.at_ ht3); rwa [gt1, Ht2.out.2.1] at this
  have ix3 : IsNode w3 x.blk := by have := IsNode.of (h3.at_ hx3); rwa [gx1, Hx2.out.2] at this
  have HH3 := Lib.hid h3
  have HI3 := Lib.hid (And.intro id3 (And.intro it3 ix3))
  have HF3 := Lib.hid ho3.frm
  clear hc11 hm3 ho3 h3 hd3 gd1 ht3 gt1 hx3 gx1 id3 it3 ix3
  go_wp2_with fail
  refine (tick_any ((HH3.out.alloc _).alloc _) hck0 hck1 (some ⟨w3.heap.size, 0, none⟩) (some ⟨w3.heap.size + 1, 0, none⟩) 2 1 [d.blk, t.blk] [x.blk] ((ptrs22 w3 d.blk t.blk).alloc _) (ptrs21 w3 d.blk t.blk x.blk) (by simp) (by simp) ?_).mono ?_
  · intro y hy
    rcases hy with hy | hy
    · rcases List.mem_cons.1 hy with rfl | hy
      · exact (HI3.out.1.alloc _).alloc _
      · obtain rfl : y = t.blk := by simpa using hy
        exact (HI3.out.2.1.alloc _).alloc _
    · obtain rfl : y = x.blk := by simpa using hy
      exact (HI3.out.2.2.alloc _).alloc _
  rintro e w5 ⟨rfl, h5, hf5⟩
  go_wp2
  go_ret
  have ownb : ∀ {i : Int} {r : NodeR}, A.node? i = some r → A.owns r.blk := fun hr => .inr (.inr (.inl (List.mem_map.2 ⟨_, H.out.mem hr, rfl⟩)))
  have ownn : ∀ {i : Int} {r : NodeR} {b : Nat}, A.node? i = some r → r.nm = some b → A.owns b := fun hr hb => .inr (.inr (.inr (List.mem_filterMap.2 ⟨_, H.out.mem hr, hb⟩)))
  refine ⟨rfl, db, tb, Hdb.out, Htb.out, by unfold FSA.moved; rw [if_pos Hxk.out]; exact h5, ?_⟩
  have F1 : Frm A.owns w (w.setCell ⟨x.blk, 13, none⟩ (.int .i64 to)).drew := ((Frm.refl _ _).setCell (p := ⟨x.blk, 13, none⟩) (fun _ => ownb Hx.out) _).drew
  have F2 := F1.trans HF2.out (fun y _ e => e ▸ ownn Hd.out Hdb.out)
  have F3 := ((F2.trans HF3.out (fun y _ e => e ▸ ownn Ht.out Htb.out)).alloc (.cells #[.pointer (some ⟨d.blk, 0, none⟩), .pointer (some ⟨t.blk, 0, none⟩)] 69)).alloc (.cells #[.pointer (some ⟨x.blk, 0, none⟩)] 69)
  refine F3.trans hf5 fun y hy hb => ?_
  rcases hb with rfl | hb | hb
  · exact .inl rfl
  · rcases List.mem_cons.1 hb with rfl | hb
    · exact ownb Hd.out
    · obtain rfl : y = t.blk := by simpa using hb
      exact ownb Ht.out
  · obtain rfl : y = x.blk := by simpa using hb
    exact ownb Hx.out

set_option maxHeartbeats 2000000 in
theorem move_oth {w : World} {A : FSA} (h : FSAt w A) {dir to : Int} {part as_ : ByteArray} {d t : NodeR} (hd : A.node? dir = some d) (ht : A.node? to = some t) (hk : d.n.kind = 6) (hk2 : t.n.kind = 6) (ho : nameOk part = true) (ho2 : nameOk as_ = true) {ino : Int} (hp : look d.names part = some ino) (ha : look t.names as_ = none) {x : NodeR} (hx : A.node? ino = some x) (hxk : x.n.kind ≠ 6) (hck0 : 0 ≤ A.clock) (hck1 : A.clock < 4611686018427387904) :
    Calls Try.prog 11 #[A.fp, .int .i64 dir, .string part, .int .i64 to, .string as_] w (MovedPost A d t x w part as_ to ino) := by
  have hc := h.c
  have hl1 := h.drew.look_some hd
  have hn1 := (h.at_ hd).c
  have hl2 := h.drew.look_some ht
  have hn2 := (h.at_ ht).c
  have k1 : (d.n.kind == 6) = true := beq_iff_eq.2 hk
  have k1' : (d.n.kind != 6) = false := by simp [hk]
  have k2 : (t.n.kind == 6) = true := beq_iff_eq.2 hk2
  have k2' : (t.n.kind != 6) = false := by simp [hk2]
  have HO1 := Lib.hid ho
  have HO2 := Lib.hid ho2
  obtain ⟨db, hdb⟩ := (h.at_ hd).nm_of hk
  obtain ⟨tb, htb⟩ := (h.at_ ht).nm_of hk2
  rw [hdb] at hn1
  rw [htb] at hn2
  have hm1 := (h.drew.at_ hd).lookup hdb part true
  have hm2 := (h.drew.at_ ht).lookup htb as_ true
  simp only [if_true] at hm1 hm2
  simp only [hp, Option.getD_some, Option.isSome_some] at hm1
  simp only [ha, Option.getD_none, Option.isSome_none] at hm2
  have hl3 := h.drew.look_some hx
  have hn3 := (h.at_ hx).c
  have k3 : (x.n.kind == 6) = false := beq_eq_false_iff_ne.2 hxk
  have Hxk := Lib.hid hxk
  have H := Lib.hid h
  have Hd := Lib.hid hd
  have Ht := Lib.hid ht
  have Hx := Lib.hid hx
  have Hdb := Lib.hid hdb
  have Htb := Lib.hid htb
  have Ha := Lib.hid ha
  have hxf := (h.at_ hx).f
  clear hd ht h hk hk2 ho ho2 hdb htb hp ha hx hxk
  unfold FSA.fp
  go_enter Try.func11, Try.ntmps11
  go_wp2_with fail
  go_region
  go_wp2_with (first | (go_at_call 29; refine (ok_any _ _).mono ?_; rintro e w' ⟨rfl, rfl⟩; first | rw [HO1.out] | rw [HO2.out]))
  have hA1 : FSAt w.drew A := H.out.drew
  obtain ⟨d1, hd1, ed1, ed2, ed3⟩ : ∃ r', (A).node? dir = some r' ∧ r'.blk = d.blk ∧ r'.nm = d.nm ∧ r'.names = d.names := ⟨d, Hd.out, rfl, rfl, rfl⟩
  obtain ⟨t1, ht1, et1, et2, et3⟩ : ∃ r', (A).node? to = some r' ∧ r'.blk = t.blk ∧ r'.nm = t.nm ∧ r'.names = t.names := ⟨t, Ht.out, rfl, rfl, rfl⟩
  obtain ⟨x1, hx1, ex1⟩ : ∃ r', (A).node? ino = some r' ∧ r'.blk = x.blk := ⟨x, Hx.out, rfl⟩
  refine upon_del ((hA1.at_ hd1).nm db (ed2.trans Hdb.out)) 0 Try.underlying70 Try.underlying9 eStr_key eStr_inj part ?_
  intro w2 hm2' ho2'
  have h2 := hA1.names hd1 (ed2.trans Hdb.out) (g := fun l => l.filter fun p => !decide (p.1 = part)) hm2' ho2'
  have f2 := ho2'.frm
  obtain ⟨d2, hd2, fd1, fd2, fd3⟩ := updN_ex hd1 db (fun l => l.filter fun p => !decide (p.1 = part))
  obtain ⟨t2, ht2, ft1, ft2, ft3⟩ := updN_ex ht1 db (fun l => l.filter fun p => !decide (p.1 = part))
  obtain ⟨x2, hx2, fx1, fx2, fx3⟩ := updN_ex hx1 db (fun l => l.filter fun p => !decide (p.1 = part))
  have hnew2 : look t2.names as_ = none := by
    rcases ft3 with e | e
    · rw [e, et3]; exact Ha.out
    · rw [e, look_filter, et3, Ha.out]; split <;> rfl
  have hc11 : w2.cell? ⟨t.blk, 11, none⟩ = some (.map (some tb)) := by
    have := (h2.at_ ht2).c 11
    rw [ft1, et1] at this
    rw [this, ft2, et2, Htb.out]; rfl
  have HH2 := Lib.hid h2
  have Hd2 := Lib.hid (And.intro hd2 (fd1.trans ed1))
  have Ht2 := Lib.hid (And.intro ht2 (And.intro (ft1.trans et1) (ft2.trans (et2.trans Htb.out))))
  have Hx2 := Lib.hid (And.intro hx2 (fx1.trans ex1))
  have Hnew2 := Lib.hid hnew2
  have HF2 := Lib.hid f2
  clear hc hl1 hl2 k1 k1' k2 k2' hn1 hn2 hm1 hm2 hl3 hn3 hxf hA1 hd1 ed1 ed2 ed3 ht1 et1 et2 et3 hx1 ex1 hm2' ho2' h2 f2 hd2 fd1 fd2 fd3 ht2 ft1 ft2 ft3 hx2 fx1 fx2 fx3 hnew2 k3
  go_wp2_with fail
  refine upon_push ((HH2.out.at_ Ht2.out.1).nm tb Ht2.out.2.2) Try.underlying70 Try.underlying9 eStr_key eStr_inj as_ ino (look_none.1 Hnew2.out) ?_
  intro w3 hm3 ho3
  have h3 := HH2.out.names Ht2.out.1 Ht2.out.2.2 (g := fun l => l ++ [(as_, ino)]) hm3 ho3
  obtain ⟨d3, hd3, gd1, _⟩ := updN_ex Hd2.out.1 tb (fun l => l ++ [(as_, ino)])
  obtain ⟨t3, ht3, gt1, _⟩ := updN_ex Ht2.out.1 tb (fun l => l ++ [(as_, ino)])
  obtain ⟨x3, hx3, gx1, _⟩ := updN_ex Hx2.out.1 tb (fun l => l ++ [(as_, ino)])
  have id3 : IsNode w3 d.blk := by have := IsNode.of (h3.at_ hd3); rwa [gd1, Hd2.out.2] at this
  have it3 : IsNode w3 t.blk := by have := IsNode.of (h3.at_ ht3); rwa [gt1, Ht2.out.2.1] at this
  have ix3 : IsNode w3 x.blk := by have := IsNode.of (h3.at_ hx3); rwa [gx1, Hx2.out.2] at this
  have HH3 := Lib.hid h3
  have HI3 := Lib.hid (And.intro id3 (And.intro it3 ix3))
  have HF3 := Lib.hid ho3.frm
  clear hc11 hm3 ho3 h3 hd3 gd1 ht3 gt1 hx3 gx1 id3 it3 ix3
  go_wp2_with fail
  refine (tick_any ((HH3.out.alloc _).alloc _) hck0 hck1 (some ⟨w3.heap.size, 0, none⟩) (some ⟨w3.heap.size + 1, 0, none⟩) 2 1 [d.blk, t.blk] [x.blk] ((ptrs22 w3 d.blk t.blk).alloc _) (ptrs21 w3 d.blk t.blk x.blk) (by simp) (by simp) ?_).mono ?_
  · intro y hy
    rcases hy with hy | hy
    · rcases List.mem_cons.1 hy with rfl | hy
      · exact (HI3.out.1.alloc _).alloc _
      · obtain rfl : y = t.blk := by simpa using hy
        exact (HI3.out.2.1.alloc _).alloc _
    · obtain rfl : y = x.blk := by simpa using hy
      exact (HI3.out.2.2.alloc _).alloc _
  rintro e w5 ⟨rfl, h5, hf5⟩
  go_wp2
  go_ret
  have ownb : ∀ {i : Int} {r : NodeR}, A.node? i = some r → A.owns r.blk := fun hr => .inr (.inr (.inl (List.mem_map.2 ⟨_, H.out.mem hr, rfl⟩)))
  have ownn : ∀ {i : Int} {r : NodeR} {b : Nat}, A.node? i = some r → r.nm = some b → A.owns b := fun hr hb => .inr (.inr (.inr (List.mem_filterMap.2 ⟨_, H.out.mem hr, hb⟩)))
  refine ⟨rfl, db, tb, Hdb.out, Htb.out, by unfold FSA.moved; rw [if_neg Hxk.out]; exact h5, ?_⟩
  have F1 : Frm A.owns w w.drew := (Frm.refl _ _).drew
  have F2 := F1.trans HF2.out (fun y _ e => e ▸ ownn Hd.out Hdb.out)
  have F3 := ((F2.trans HF3.out (fun y _ e => e ▸ ownn Ht.out Htb.out)).alloc (.cells #[.pointer (some ⟨d.blk, 0, none⟩), .pointer (some ⟨t.blk, 0, none⟩)] 69)).alloc (.cells #[.pointer (some ⟨x.blk, 0, none⟩)] 69)
  refine F3.trans hf5 fun y hy hb => ?_
  rcases hb with rfl | hb | hb
  · exact .inl rfl
  · rcases List.mem_cons.1 hb with rfl | hb
    · exact ownb Hd.out
    · obtain rfl : y = t.blk := by simpa using hb
      exact ownb Ht.out
  · obtain rfl : y = x.blk := by simpa using hb
    exact ownb Hx.out
end Go.Proofs.Ytccfimgpbmkpiaa
