/- The parser's small functions: (*parse.parser).is, here, fail, eat, must, take, node. The parser's expressions: (*parse.parser).factor. The parser's expressions: (*parse.parser).term. The parser's expressions: (*parse.parser).expr. The parser's (*parse.parser).weekly. The parser's (*parse.parser).dates. The parser's (*parse.parser).thing. -/
import Derived.Test.YtbadplbdgpbdaaaDoorParP
import Derived.Test.YtbadplbdgpbdaaaDoorMea
import Derived.Test.YtbadplbdgpbdaaaDoorShp
import Derived.Test.YtbadplbdgpbdaaaDoorMnA
import Derived.Test.YtbadplbdgpbdaaaDoorStr
namespace Go.Proofs.YtbadplbdgpbdaaaDoor
open Go.RowKit
namespace Ru
open Lx
open Sl (strV Reads)

/-- tokens that lie below a block -/
def TokR (w : World) (B : Nat) (v : Value) (l : List Tok) : Prop := Reads B v l fun b o i t =>
  w.cell? ⟨b, o + i * 4, none⟩ = some (.int .i64 t.1) ∧ w.cell? ⟨b, o + i * 4 + 1, none⟩ = some (.int .i64 t.2.1) ∧ w.cell? ⟨b, o + i * 4 + 2, none⟩ = some (.int .i64 t.2.2.1) ∧ w.cell? ⟨b, o + i * 4 + 3, none⟩ = some (strV t.2.2.2)
theorem TokR.below {w w' : World} {B B' : Nat} {v : Value} {l : List Tok} (h : TokR w B v l) (hb : Below B' w w') (hB : B ≤ B') : TokR w' B v l :=
  Reads.mono h (Nat.le_refl _) fun b o i n hlt _ h1 => ⟨(hb.cell (p := ⟨b, _, none⟩) (by simp; omega)).trans h1.1, (hb.cell (p := ⟨b, _, none⟩) (by simp; omega)).trans h1.2.1, (hb.cell (p := ⟨b, _, none⟩) (by simp; omega)).trans h1.2.2.1, (hb.cell (p := ⟨b, _, none⟩) (by simp; omega)).trans h1.2.2.2⟩
theorem TokR.grown {w w' : World} {B pb : Nat} {v : Value} {l : List Tok} (h : TokR w B v l) (hg : w.grownBy w' (some pb)) (hB : B ≤ pb) (hw : B ≤ w.heap.size) : TokR w' B v l :=
  h.below (below_row (Below.refl B w) hg hB hw) (Nat.le_refl _)
/-- the parser -/
def ParB (w : World) (pb : Nat) (tv : Value) (en : Int) (i nd : Nat) : Prop := Blk w pb 148 #[tv, .int .i64 i, .int .i64 en, .int .i64 nd]
/-- what the walk of a parser's function leans on -/
structure ParAt (w : World) (B pb : Nat) (tv : Value) (l : List Tok) (en : Int) (i nd : Nat) : Prop where
  blk : ParB w pb tv en i nd
  toks : TokR w B tv l
  le : B ≤ pb
  i : i ≤ l.length
  n : nd ≤ 601
theorem ParAt.lt {w : World} {B pb : Nat} {tv : Value} {l : List Tok} {en : Int} {i nd : Nat} (h : ParAt w B pb tv l en i nd) : pb < w.heap.size := Blk.lt h.blk
theorem ParAt.below {w w' : World} {B pb : Nat} {tv : Value} {l : List Tok} {en : Int} {i nd : Nat} (h : ParAt w B pb tv l en i nd) {B' : Nat} (hb : Below B' w w') (hB : w.heap.size ≤ B') : ParAt w' B pb tv l en i nd := by
  have h1 := h.lt
  have h2 := h.le
  exact ⟨Blk.below h.blk hb (by omega), h.toks.below hb (by omega), h.le, h.i, h.n⟩
/-- it has gone on -/
theorem ParAt.go {w w' : World} {B pb : Nat} {tv : Value} {l : List Tok} {en : Int} {i nd j nj : Nat} (h : ParAt w B pb tv l en i nd) (hg : w.grownBy w' (some pb)) (hb : ParB w' pb tv en j nj) (hj : j ≤ l.length) (hn : nj ≤ 601) : ParAt w' B pb tv l en j nj :=
  ⟨hb, h.toks.grown hg h.le (by have := h.lt; have := h.le; omega), h.le, hj, hn⟩

theorem ParAt.far {w : World} {B pb : Nat} {tv : Value} {l : List Tok} {en : Int} {i nd : Nat} (h : ParAt w B pb tv l en i nd) {g : Nat} (hg : pb < g) (q : Nat) (u : Value) : ParAt (w.setCell ⟨g, q, none⟩ u) B pb tv l en i nd :=
  ⟨Blk.far h.blk (p := ⟨g, q, none⟩) (by show pb ≠ g; omega) u, h.toks.below ((Below.refl B w).setCell (p := ⟨g, q, none⟩) (by have := h.le; show B ≤ g; omega) u) (Nat.le_refl _), h.le, h.i, h.n⟩
theorem _root_.Go.World.grownBy.far {a b : World} {r : Option Nat} (h : a.grownBy b r) {g : Nat} (hg : a.heap.size ≤ g) (q : Nat) (u : Value) : a.grownBy (b.setCell ⟨g, q, none⟩ u) r :=
  ⟨h.os, h.tape, h.output, by rw [World.size_setCell]; exact h.size, fun k hk hne => (Below.heap_setCell b ⟨g, q, none⟩ u k (by show k ≠ g; omega)).trans (h.block k hk hne)⟩

attribute [local go_sem] bytes_list

set_option maxRecDepth 100000 in
set_option maxHeartbeats 4000000 in
theorem is_any (l : List Tok) (en : Int) (i nd : Nat) (kind : Int) (text : List UInt8) (w : World) (B pb : Nat) (tv : Value) (h : ParAt w B pb tv l en i nd) :
    Calls Tryd.prog 109 #[.pointer (some ⟨pb, 0, none⟩), .int .i64 kind, strV text] w fun e w' => e = .returned (.bool (isP l i kind text)) ∧ Below w.heap.size w w' := by
  have c0 : w.cell? ⟨pb, 0, none⟩ = some tv := Blk.cell h.blk 0
  have c1 : w.cell? ⟨pb, 1, none⟩ = some (.int .i64 i) := Blk.cell h.blk 1
  have hlt := h.lt
  have hle := h.le
  obtain ⟨A, cap, rfl, hl63, hc⟩ := h.toks
  by_cases hi : i < l.length
  · obtain ⟨t, ht⟩ : ∃ t, l[i]? = some t := ⟨_, List.getElem?_eq_getElem hi⟩
    obtain ⟨b, o, rfl, hbl, k0, k1, k2, k3⟩ := hc i t ht
    have hres : isP l i kind text = (t.1 == kind && t.2.2.2 == text) := by unfold isP; rw [ht]
    have g1 : decide ((i : Int) < (l.length : Int)) = true := by simp; omega
    have g1' : decide (i < l.length) = true := by simp; omega
    have zb : b < w.heap.size := by omega
    replace hc := Lib.hid hc
    obtain ⟨tk, tn, ta, tt⟩ := t
    simp only at k0 k1 k2 k3 hres
    clear ht
    cases hk : (tk == kind) with
    | false =>
      rw [hk, Bool.false_and] at hres
      replace hres := Lib.hid hres
      go_enter Tryd.func109, Tryd.ntmps109
      go_wp2_with fail
      refine wp_region_below (w.heap.size) _ (Below.refl _ _) (by kernel_rfl) (by kernel_rfl) ?_
      repeat (go_big_quiet_step ((fail)))
      refine wpQuiet_nil ?_
      rintro _ ⟨n1, rfl⟩
      go_wp2
      go_ret
      exact ⟨by rw [hres.out]; rfl, n1.below⟩
    | true =>
      rw [hk, Bool.true_and] at hres
      replace hres := Lib.hid hres
      go_enter Tryd.func109, Tryd.ntmps109
      go_wp2_with fail
      refine wp_region_below (w.heap.size) _ (Below.refl _ _) (by kernel_rfl) (by kernel_rfl) ?_
      repeat (go_big_quiet_step ((fail)))
      refine wpQuiet_nil ?_
      rintro _ ⟨n1, rfl⟩
      go_wp2
      go_ret
      exact ⟨by rw [hres.out]; rfl, n1.below⟩
  · have hres := Lib.hid (show isP l i kind text = false by unfold isP; rw [List.getElem?_eq_none (by omega)])
    have g1 : decide ((i : Int) < (l.length : Int)) = false := by simp; omega
    have g1' : decide (i < l.length) = false := by simp; omega
    replace hc := Lib.hid hc
    go_enter Tryd.func109, Tryd.ntmps109
    go_wp2_with fail
    refine wp_region_below (w.heap.size) _ (Below.refl _ _) (by kernel_rfl) (by kernel_rfl) ?_
    repeat (go_big_quiet_step ((fail)))
    refine wpQuiet_nil ?_
    rintro _ ⟨n1, rfl⟩
    go_wp2
    go_ret
    exact ⟨by rw [hres.out]; rfl, n1.below⟩

/-- the panic of a fault -/
abbrev oopsC (err pos : Int) : Ending := .panicked [{ v := .iface 145 (.agg #[.int .i64 err, .int .i64 pos]), recovered := false }]

set_option maxRecDepth 100000 in
set_option maxHeartbeats 4000000 in
theorem here_any (l : List Tok) (en : Int) (i nd : Nat) (w : World) (B pb : Nat) (tv : Value) (h : ParAt w B pb tv l en i nd) :
    Calls Tryd.prog 110 #[.pointer (some ⟨pb, 0, none⟩)] w fun e w' => e = .returned (.int .i64 (hereP l en i)) ∧ Below w.heap.size w w' := by
  have c0 : w.cell? ⟨pb, 0, none⟩ = some tv := Blk.cell h.blk 0
  have c1 : w.cell? ⟨pb, 1, none⟩ = some (.int .i64 i) := Blk.cell h.blk 1
  have c2 : w.cell? ⟨pb, 2, none⟩ = some (.int .i64 en) := Blk.cell h.blk 2
  have hlt := h.lt
  have hle := h.le
  obtain ⟨A, cap, rfl, hl63, hc⟩ := h.toks
  by_cases hi : i < l.length
  · obtain ⟨t, ht⟩ : ∃ t, l[i]? = some t := ⟨_, List.getElem?_eq_getElem hi⟩
    obtain ⟨b, o, rfl, hbl, k0, k1, k2, k3⟩ := hc i t ht
    have hres := Lib.hid (show hereP l en i = t.2.2.1 by unfold hereP; rw [ht])
    have g1 : decide ((i : Int) < (l.length : Int)) = true := by simp; omega
    have g1' : decide (i < l.length) = true := by simp; omega
    have zb : b < w.heap.size := by omega
    replace hc := Lib.hid hc
    clear ht
    go_enter Tryd.func110, Tryd.ntmps110
    go_wp2_with fail
    refine wp_region_below (w.heap.size) _ (Below.refl _ _) (by kernel_rfl) (by kernel_rfl) ?_
    repeat (go_big_quiet_step ((fail)))
    refine wpQuiet_nil ?_
    rintro _ ⟨n1, rfl⟩
    have hb1 := n1.below
    go_wp2_with fail
    refine wp_region_below (w.heap.size) _ (hb1) (by kernel_rfl) (by kernel_rfl) ?_
    repeat (go_big_quiet_step ((fail)))
    refine wpQuiet_nil ?_
    rintro _ ⟨n2, rfl⟩
    go_wp2
    go_ret
    exact ⟨by rw [hres.out]; rfl, n2.below⟩
  · have hres := Lib.hid (show hereP l en i = en by unfold hereP; rw [List.getElem?_eq_none (by omega)])
    have g1 : decide ((i : Int) < (l.length : Int)) = false := by simp; omega
    have g1' : decide (i < l.length) = false := by simp; omega
    replace hc := Lib.hid hc
    go_enter Tryd.func110, Tryd.ntmps110
    go_wp2_with fail
    refine wp_region_below (w.heap.size) _ (Below.refl _ _) (by kernel_rfl) (by kernel_rfl) ?_
    repeat (go_big_quiet_step ((fail)))
    refine wpQuiet_nil ?_
    rintro _ ⟨n1, rfl⟩
    go_wp2
    go_ret
    exact ⟨by rw [hres.out]; rfl, n1.below⟩

set_option maxHeartbeats 1000000 in
theorem fail_any (l : List Tok) (en : Int) (i nd : Nat) (err : Int) (w : World) (B pb : Nat) (tv : Value) (h : ParAt w B pb tv l en i nd) :
    Calls Tryd.prog 92 #[.pointer (some ⟨pb, 0, none⟩), .int .i64 err] w fun e w' => e = oopsC err (hereP l en i) ∧ Below w.heap.size w w' := by
  have hH := Lib.hid (here_any l en i nd w B pb tv h)
  go_enter Tryd.func92, Tryd.ntmps92
  go_wp2_with (go_at_call 110; refine hH.out.mono ?_; rintro e w1 ⟨rfl, hb1⟩)
  exact ⟨rfl, rfl, hb1⟩

set_option maxHeartbeats 1000000 in
theorem eat_no (l : List Tok) (en : Int) (i nd : Nat) (kind : Int) (text : List UInt8) (w : World) (B pb : Nat) (tv : Value) (h : ParAt w B pb tv l en i nd) (hn : isP l i kind text = false) :
    Calls Tryd.prog 91 #[.pointer (some ⟨pb, 0, none⟩), .int .i64 kind, strV text] w fun e w' => e = .returned (.bool false) ∧ Below w.heap.size w w' := by
  have hI := Lib.hid (is_any l en i nd kind text w B pb tv h)
  rw [hn] at hI
  go_enter Tryd.func91, Tryd.ntmps91
  go_wp2_with (go_at_call 109; refine hI.out.mono ?_; rintro e w1 ⟨rfl, hb1⟩)
  go_ret
  exact ⟨rfl, hb1⟩
theorem ParAt.step {w : World} {B pb : Nat} {tv : Value} {l : List Tok} {en : Int} {i nd : Nat} (h : ParAt w B pb tv l en i nd) {j : Nat} (hj : j ≤ l.length) : ParAt (w.setCell ⟨pb, 1, none⟩ (.int .i64 j)) B pb tv l en j nd ∧ w.grownBy (w.setCell ⟨pb, 1, none⟩ (.int .i64 j)) (some pb) := by
  have hg : w.grownBy (w.setCell ⟨pb, 1, none⟩ (.int .i64 j)) (some pb) := ⟨rfl, rfl, rfl, by simp, fun k hk hne => Below.heap_setCell w ⟨pb, 1, none⟩ _ k (fun e => hne (by rw [e]))⟩
  exact ⟨h.go hg (Blk.set h.blk 1 _) hj h.n, hg⟩
theorem ParAt.count {w : World} {B pb : Nat} {tv : Value} {l : List Tok} {en : Int} {i nd : Nat} (h : ParAt w B pb tv l en i nd) {n : Nat} (hn : n ≤ 601) : ParAt (w.setCell ⟨pb, 3, none⟩ (.int .i64 n)) B pb tv l en i n ∧ w.grownBy (w.setCell ⟨pb, 3, none⟩ (.int .i64 n)) (some pb) := by
  have hg : w.grownBy (w.setCell ⟨pb, 3, none⟩ (.int .i64 n)) (some pb) := ⟨rfl, rfl, rfl, by simp, fun k hk hne => Below.heap_setCell w ⟨pb, 3, none⟩ _ k (fun e => hne (by rw [e]))⟩
  exact ⟨h.go hg (Blk.set h.blk 3 _) h.i hn, hg⟩
theorem grown_of {a b : World} (r : Option Nat) (h : Below a.heap.size a b) : a.grownBy b r := ⟨h.os, h.tape, h.output, h.size, fun k hk _ => h.block k hk⟩

set_option maxHeartbeats 1000000 in
theorem eat_yes (l : List Tok) (en : Int) (i nd : Nat) (kind : Int) (text : List UInt8) (w : World) (B pb : Nat) (tv : Value) (h : ParAt w B pb tv l en i nd) (hn : isP l i kind text = true) (hl : l.length ≤ 1000000) :
    Calls Tryd.prog 91 #[.pointer (some ⟨pb, 0, none⟩), .int .i64 kind, strV text] w fun e w' => e = .returned (.bool true) ∧ w.grownBy w' (some pb) ∧ ParAt w' B pb tv l en (i + 1) nd := by
  have hI := Lib.hid (is_any l en i nd kind text w B pb tv h)
  have hil := isP_lt hn
  rw [hn] at hI
  have hlt := h.lt
  go_enter Tryd.func91, Tryd.ntmps91
  go_wp2_with (go_at_call 109; refine hI.out.mono ?_; rintro e w1 ⟨rfl, hb1⟩; have h1 := h.below hb1 (Nat.le_refl _); have c1 : w1.cell? ⟨pb, 1, none⟩ = some (.int .i64 i) := Blk.cell h1.blk 1; have f1 : w1.frozen? ⟨pb, 1, none⟩ = false := Blk.frozen h1.blk 1; have z1 := hb1.size)
  go_ret
  have hst := h1.step (j := i + 1) (by omega)
  exact ⟨rfl, grown_grown (grown_of _ hb1) hst.2, hst.1⟩

set_option maxHeartbeats 1000000 in
theorem must_yes (l : List Tok) (en : Int) (i nd : Nat) (text : List UInt8) (w : World) (B pb : Nat) (tv : Value) (h : ParAt w B pb tv l en i nd) (hn : isP l i 3 text = true) (hl : l.length ≤ 1000000) :
    Calls Tryd.prog 94 #[.pointer (some ⟨pb, 0, none⟩), strV text] w fun e w' => e = .returned (.tuple #[]) ∧ w.grownBy w' (some pb) ∧ ParAt w' B pb tv l en (i + 1) nd := by
  have hE := Lib.hid (eat_yes l en i nd 3 text w B pb tv h hn hl)
  go_enter Tryd.func94, Tryd.ntmps94
  go_wp2_with (go_at_call 91; refine hE.out.mono ?_; rintro e w1 ⟨rfl, hg1, h1⟩)
  go_end0
  exact ⟨rfl, hg1, h1⟩

set_option maxHeartbeats 1000000 in
theorem must_no (l : List Tok) (en : Int) (i nd : Nat) (text : List UInt8) (w : World) (B pb : Nat) (tv : Value) (h : ParAt w B pb tv l en i nd) (hn : isP l i 3 text = false) :
    Calls Tryd.prog 94 #[.pointer (some ⟨pb, 0, none⟩), strV text] w fun e w' => e = oopsC 2 (hereP l en i) ∧ w.grownBy w' (some pb) := by
  have hE := Lib.hid (eat_no l en i nd 3 text w B pb tv h hn)
  have hF := Lib.hid (fun (W : World) (hb : Below w.heap.size w W) => fail_any l en i nd 2 W B pb tv (h.below hb (Nat.le_refl _)))
  go_enter Tryd.func94, Tryd.ntmps94
  go_wp2_with (first
    | (go_at_call 91; refine hE.out.mono ?_; rintro e w1 ⟨rfl, hb1⟩)
    | (go_at_call 92; refine (hF.out _ hb1).mono ?_; rintro e w2 ⟨rfl, hb2⟩))
  exact ⟨rfl, rfl, grown_of _ (hb1.trans (hb2.mono hb1.size))⟩

/-- a token as a value -/
def tokA (t : Tok) : Value := .agg #[.int .i64 t.1, .int .i64 t.2.1, .int .i64 t.2.2.1, strV t.2.2.2]

set_option maxRecDepth 100000 in
set_option maxHeartbeats 4000000 in
theorem take_yes (l : List Tok) (en : Int) (i nd : Nat) (kind : Int) (t : Tok) (w : World) (B pb : Nat) (tv : Value) (h : ParAt w B pb tv l en i nd) (ht : l[i]? = some t) (hk : t.1 = kind) (hl : l.length ≤ 1000000) :
    Calls Tryd.prog 93 #[.pointer (some ⟨pb, 0, none⟩), .int .i64 kind] w fun e w' => e = .returned (tokA t) ∧ w.grownBy w' (some pb) ∧ ParAt w' B pb tv l en (i + 1) nd := by
  have c0 : w.cell? ⟨pb, 0, none⟩ = some tv := Blk.cell h.blk 0
  have c1 : w.cell? ⟨pb, 1, none⟩ = some (.int .i64 i) := Blk.cell h.blk 1
  have hlt := h.lt
  have hle := h.le
  have hi := (List.getElem?_eq_some_iff.1 ht).1
  have hh := h
  obtain ⟨A, cap, rfl, hl63, hc⟩ := h.toks
  obtain ⟨b, o, rfl, hbl, k0, k1, k2, k3⟩ := hc i t ht
  have g1 : ((i : Int) == (l.length : Int)) = false := by simp; omega
  have g1' : (i == l.length) = false := by simp; omega
  have g2 : (t.1 != kind) = false := by simp [hk]
  have zb : b < w.heap.size := by omega
  have zbp : b ≠ pb := by omega
  have B0 := Blk.new w 152 #[.int .i64 0, .int .i64 0, .int .i64 0, strV []]
  replace hc := Lib.hid hc
  obtain ⟨tk, tn, ta, tt⟩ := t
  unfold tokA
  simp only at k0 k1 k2 k3 g2 hk ⊢
  clear ht hk
  go_enter Tryd.func93, Tryd.ntmps93
  go_wp2_with fail
  refine wp_region_below (w.heap.size + 1) _ (Below.refl _ _) (by kernel_rfl) (by kernel_rfl) ?_
  repeat (go_big_quiet_step ((fail)))
  refine wpQuiet_nil ?_
  rintro _ ⟨n1, rfl⟩
  have hb1 : Below w.heap.size w n1.w := ((Below.refl _ _).alloc (Nat.le_refl _) _).trans (n1.below.mono (by omega))
  have h1 := hh.below hb1 (Nat.le_refl _)
  have z1 := n1.size
  simp at z1
  have B1 := B0.after n1 (by simp)
  have x1 : n1.w.cell? ⟨pb, 1, none⟩ = some (.int .i64 i) := Blk.cell h1.blk 1
  have f1 : n1.w.frozen? ⟨pb, 1, none⟩ = false := Blk.frozen h1.blk 1
  have hst := h1.step (j := i + 1) (by omega)
  go_wp2_with fail
  refine wp_region_below_tail 11 (n1.w.heap.size) _ (Below.refl _ _) (by kernel_rfl) (by kernel_rfl) ?_
  simp only [List.take_succ_cons, List.take_zero, List.drop_succ_cons, List.drop_zero]
  iterate 11 (go_big_quiet_step ((fail)))
  refine wpQuiet_nil ?_
  rintro _ ⟨n2, rfl⟩
  change wpList _ _ _ _ _ _
  have hb2 := n2.below
  have B2 := (B1.far (p := ⟨pb, 1, none⟩) (by show w.heap.size ≠ pb; omega) (.int .i64 ((i + 1 : Nat) : Int))).after n2 (by omega)
  have h2 := hst.1.below (B' := n1.w.heap.size) n2.below (by simp)
  have s0 : n2.w.cell? ⟨w.heap.size, 0, none⟩ = some (.int .i64 0) := B2.cell 0
  have s1 : n2.w.cell? ⟨w.heap.size, 1, none⟩ = some (.int .i64 0) := B2.cell 1
  have s2 : n2.w.cell? ⟨w.heap.size, 2, none⟩ = some (.int .i64 0) := B2.cell 2
  have s3 : n2.w.cell? ⟨w.heap.size, 3, none⟩ = some (strV []) := B2.cell 3
  have t0 : n2.w.frozen? ⟨w.heap.size, 0, none⟩ = false := B2.frozen 0
  have t1 : n2.w.frozen? ⟨w.heap.size, 1, none⟩ = false := B2.frozen 1
  have t2 : n2.w.frozen? ⟨w.heap.size, 2, none⟩ = false := B2.frozen 2
  have t3 : n2.w.frozen? ⟨w.heap.size, 3, none⟩ = false := B2.frozen 3
  have z2 := n2.size
  simp at z2
  go_wp2_with fail
  have E := (((B2.set 0 (.int .i64 tk)).set 1 (.int .i64 tn)).set 2 (.int .i64 ta)).set 3 (strV tt)
  have e0 := (E.cell 0).trans (show _ = some (Value.int .i64 tk) from rfl)
  have e1 := (E.cell 1).trans (show _ = some (Value.int .i64 tn) from rfl)
  have e2 := (E.cell 2).trans (show _ = some (Value.int .i64 ta) from rfl)
  have e3 := (E.cell 3).trans (show _ = some (strV tt) from rfl)
  refine bodyPost_ret (v := .agg #[.int .i64 tk, .int .i64 tn, .int .i64 ta, strV tt]) (by simp [results, Tryd.results93, e0, e1, e2, e3, go_sem]) rfl ⟨rfl, ?_, (((h2.far (by omega) 0 _).far (by omega) 1 _).far (by omega) 2 _).far (by omega) 3 _⟩
  have hgA : w.grownBy n2.w (some pb) := grown_below (grown_grown (grown_of _ hb1) hst.2) (by simpa using n2.below)
  exact ((((hgA.far (by omega) 0 _).far (by omega) 1 _).far (by omega) 2 _).far (by omega) 3 _)

set_option maxHeartbeats 1000000 in
theorem take_no (l : List Tok) (en : Int) (i nd : Nat) (kind : Int) (w : World) (B pb : Nat) (tv : Value) (h : ParAt w B pb tv l en i nd) (hn : kindP l i kind = false) :
    Calls Tryd.prog 93 #[.pointer (some ⟨pb, 0, none⟩), .int .i64 kind] w fun e w' => e = oopsC 2 (hereP l en i) ∧ w.grownBy w' (some pb) := by
  have c0 : w.cell? ⟨pb, 0, none⟩ = some tv := Blk.cell h.blk 0
  have c1 : w.cell? ⟨pb, 1, none⟩ = some (.int .i64 i) := Blk.cell h.blk 1
  have hlt := h.lt
  have hle := h.le
  have hF := Lib.hid (fun (W : World) (hb : Below w.heap.size w W) => fail_any l en i nd 2 W B pb tv (h.below hb (Nat.le_refl _)))
  obtain ⟨A, cap, rfl, hl63, hc⟩ := h.toks
  by_cases hi : i < l.length
  · obtain ⟨t, ht⟩ : ∃ t, l[i]? = some t := ⟨_, List.getElem?_eq_getElem hi⟩
    obtain ⟨b, o, rfl, hbl, k0, k1, k2, k3⟩ := hc i t ht
    have g1 : ((i : Int) == (l.length : Int)) = false := by simp; omega
    have g1' : (i == l.length) = false := by simp; omega
    have g2 : (t.1 != kind) = true := by
      unfold kindP at hn
      rw [ht] at hn
      simpa using hn
    have zb : b < w.heap.size := by omega
    replace hc := Lib.hid hc
    obtain ⟨tk, tn, ta, tt⟩ := t
    simp only at k0 k1 k2 k3 g2
    clear ht hn
    go_enter Tryd.func93, Tryd.ntmps93
    go_wp2_with fail
    refine wp_region_below (w.heap.size + 1) _ (Below.refl _ _) (by kernel_rfl) (by kernel_rfl) ?_
    repeat (go_big_quiet_step ((fail)))
    refine wpQuiet_nil ?_
    rintro _ ⟨n1, rfl⟩
    have hb1 : Below w.heap.size w n1.w := ((Below.refl _ _).alloc (Nat.le_refl _) _).trans (n1.below.mono (by omega))
    go_wp2_with (go_at_call 92; refine (hF.out _ hb1).mono ?_; rintro e w2 ⟨rfl, hb2⟩)
    exact ⟨rfl, rfl, grown_of _ (hb1.trans (hb2.mono hb1.size))⟩
  · have g1 : ((i : Int) == (l.length : Int)) = true := by have := h.i; simp; omega
    have g1' : (i == l.length) = true := by have := h.i; simp; omega
    replace hc := Lib.hid hc
    go_enter Tryd.func93, Tryd.ntmps93
    go_wp2_with fail
    refine wp_region_below (w.heap.size + 1) _ (Below.refl _ _) (by kernel_rfl) (by kernel_rfl) ?_
    repeat (go_big_quiet_step ((fail)))
    refine wpQuiet_nil ?_
    rintro _ ⟨n1, rfl⟩
    have hb1 : Below w.heap.size w n1.w := ((Below.refl _ _).alloc (Nat.le_refl _) _).trans (n1.below.mono (by omega))
    go_wp2_with (go_at_call 92; refine (hF.out _ hb1).mono ?_; rintro e w2 ⟨rfl, hb2⟩)
    exact ⟨rfl, rfl, grown_of _ (hb1.trans (hb2.mono hb1.size))⟩

set_option maxHeartbeats 1000000 in
theorem node_no (l : List Tok) (en : Int) (i nd : Nat) (k x y : Int) (nm : List UInt8) (A : Option Addr) (n cap : Nat) (w : World) (B pb : Nat) (tv : Value) (h : ParAt w B pb tv l en i nd) (hn : 600 < nd + 1) (hnn : nd ≤ 600) :
    Calls Tryd.prog 112 #[.pointer (some ⟨pb, 0, none⟩), .agg #[.int .i64 k, .int .i64 x, .int .i64 y, strV nm, .slice A n cap]] w fun e w' => e = oopsC 4 (hereP l en i) ∧ w.grownBy w' (some pb) := by
  have c3 : w.cell? ⟨pb, 3, none⟩ = some (.int .i64 nd) := Blk.cell h.blk 3
  have f3 : w.frozen? ⟨pb, 3, none⟩ = false := Blk.frozen h.blk 3
  have hlt := h.lt
  have hst := h.count (n := nd + 1) (by omega)
  have hbA : Below w.heap.size (w.setCell ⟨pb, 3, none⟩ (.int .i64 (nd + 1 : Nat))) (((w.setCell ⟨pb, 3, none⟩ (.int .i64 (nd + 1 : Nat))).alloc (.cells #[.int .i64 k, .int .i64 x, .int .i64 y, strV nm, .slice A n cap] 48)).alloc (.cells #[.int .i64 0, .int .i64 0, .int .i64 0, strV [], .slice none 0 0] 48)) := ((Below.refl _ _).alloc (by simp) _).alloc (by simp) _
  have hF := Lib.hid (fail_any l en i (nd + 1) 4 _ B pb tv (hst.1.below hbA (by simp)))
  have g : decide ((600 : Int) < ((nd : Int) + 1)) = true := by simp; omega
  go_enter Tryd.func112, Tryd.ntmps112
  go_wp2_with (go_at_call 92; refine hF.out.mono ?_; rintro e w2 ⟨rfl, hb2⟩)
  exact ⟨rfl, rfl, grown_below (grown_below hst.2 (hbA.mono (by simp))) hb2⟩

set_option maxHeartbeats 1000000 in
theorem node_yes (l : List Tok) (en : Int) (i nd : Nat) (k x y : Int) (nm : List UInt8) (A : Option Addr) (n cap : Nat) (w : World) (B pb : Nat) (tv : Value) (h : ParAt w B pb tv l en i nd) (hn : ¬ 600 < nd + 1) :
    Calls Tryd.prog 112 #[.pointer (some ⟨pb, 0, none⟩), .agg #[.int .i64 k, .int .i64 x, .int .i64 y, strV nm, .slice A n cap]] w fun e w' => e = .returned (.agg #[.int .i64 k, .int .i64 x, .int .i64 y, strV nm, .slice A n cap]) ∧ w.grownBy w' (some pb) ∧ ParAt w' B pb tv l en i (nd + 1) := by
  have c3 : w.cell? ⟨pb, 3, none⟩ = some (.int .i64 nd) := Blk.cell h.blk 3
  have f3 : w.frozen? ⟨pb, 3, none⟩ = false := Blk.frozen h.blk 3
  have hlt := h.lt
  have hst := h.count (n := nd + 1) (by omega)
  have hbA : Below w.heap.size (w.setCell ⟨pb, 3, none⟩ (.int .i64 (nd + 1 : Nat))) (((w.setCell ⟨pb, 3, none⟩ (.int .i64 (nd + 1 : Nat))).alloc (.cells #[.int .i64 k, .int .i64 x, .int .i64 y, strV nm, .slice A n cap] 48)).alloc (.cells #[.int .i64 k, .int .i64 x, .int .i64 y, strV nm, .slice A n cap] 48)) := ((Below.refl _ _).alloc (by simp) _).alloc (by simp) _
  have g : decide ((600 : Int) < ((nd : Int) + 1)) = false := by simp; omega
  go_enter Tryd.func112, Tryd.ntmps112
  go_wp2
  exact bodyPost_ret (v := .agg #[.int .i64 k, .int .i64 x, .int .i64 y, strV nm, .slice A n cap]) (by simp [results, Tryd.results112, go_sem]) rfl ⟨rfl, grown_below hst.2 (hbA.mono (by simp)), hst.1.below hbA (by simp)⟩

end Ru
end Go.Proofs.YtbadplbdgpbdaaaDoor

namespace Go.Proofs.YtbadplbdgpbdaaaDoor
open Go.RowKit
namespace Ru
open Lx
open Sl (strV Reads)

mutual
/-- an expression at a place, all that lies below it in blocks of a kind -/
def ExIn (w : World) (S : Nat → Prop) : Nat → Nat → Expr → Prop
  | b, o, .mk k x y nm kids => w.cell? ⟨b, o, none⟩ = some (.int .i64 k) ∧ w.cell? ⟨b, o + 1, none⟩ = some (.int .i64 x) ∧ w.cell? ⟨b, o + 2, none⟩ = some (.int .i64 y) ∧ w.cell? ⟨b, o + 3, none⟩ = some (strV nm) ∧ (nm.length ≤ 9223372036854775807 ∧ -9223372036854775808 ≤ k ∧ k ≤ 9223372036854775807) ∧
      ∃ A cap, w.cell? ⟨b, o + 4, none⟩ = some (.slice A kids.length cap) ∧ kids.length ≤ 9223372036854775807 ∧ (kids = [] ∨ ∃ kb ko, A = some ⟨kb, ko, none⟩ ∧ S kb ∧ (∃ cs, w.heap[kb]? = some (.cells cs 48 (0, 0))) ∧ KidsIn w S kb ko kids)
def KidsIn (w : World) (S : Nat → Prop) : Nat → Nat → List Expr → Prop
  | _, _, [] => True
  | b, o, e :: l => ExIn w S b o e ∧ KidsIn w S b (o + 5) l
end
mutual
theorem ExIn.keep {w w' : World} {S S' : Nat → Prop} (hS : ∀ k, S k → w'.heap[k]? = w.heap[k]? ∧ S' k) : ∀ {e : Expr} {b o : Nat}, ExIn w S b o e → w'.heap[b]? = w.heap[b]? → ExIn w' S' b o e
  | .mk k x y nm kids, b, o, h, hb => by
    rw [ExIn] at h ⊢
    obtain ⟨h0, h1, h2, h3, h4, A, cap, h5, h6, h7⟩ := h
    have c : ∀ q, w'.cell? ⟨b, q, none⟩ = w.cell? ⟨b, q, none⟩ := fun q => World.cell?_of_block hb
    refine ⟨(c _).trans h0, (c _).trans h1, (c _).trans h2, (c _).trans h3, h4, A, cap, (c _).trans h5, h6, ?_⟩
    rcases h7 with h7 | ⟨kb, ko, h7, h8, ⟨cs, ht⟩, h9⟩
    · exact .inl h7
    · exact .inr ⟨kb, ko, h7, (hS kb h8).2, ⟨cs, (hS kb h8).1.trans ht⟩, KidsIn.keep hS h9 (hS kb h8).1⟩
theorem KidsIn.keep {w w' : World} {S S' : Nat → Prop} (hS : ∀ k, S k → w'.heap[k]? = w.heap[k]? ∧ S' k) : ∀ {l : List Expr} {b o : Nat}, KidsIn w S b o l → w'.heap[b]? = w.heap[b]? → KidsIn w' S' b o l
  | [], _, _, _, _ => by rw [KidsIn]; trivial
  | e :: l, b, o, h, hb => by
    rw [KidsIn] at h ⊢
    exact ⟨ExIn.keep hS h.1 hb, KidsIn.keep hS h.2 hb⟩
end
mutual
theorem ExIn.at' {w : World} {S : Nat → Prop} {B : Nat} (hS : ∀ k, S k → k < B) : ∀ {e : Expr} {b o : Nat}, ExIn w S b o e → ExprAt w B b o e
  | .mk k x y nm kids, b, o, h => by
    rw [ExIn] at h
    rw [ExprAt]
    obtain ⟨h0, h1, h2, h3, h4, A, cap, h5, h6, h7⟩ := h
    refine ⟨h0, h1, h2, h3, h4, A, cap, h5, h6, ?_⟩
    rcases h7 with h7 | ⟨kb, ko, h7, h8, _, h9⟩
    · exact .inl h7
    · exact .inr ⟨kb, ko, h7, hS kb h8, KidsIn.at' hS h9⟩
theorem KidsIn.at' {w : World} {S : Nat → Prop} {B : Nat} (hS : ∀ k, S k → k < B) : ∀ {l : List Expr} {b o : Nat}, KidsIn w S b o l → KidsAt w B b o l
  | [], _, _, _ => by rw [KidsAt]; trivial
  | e :: l, b, o, h => by
    rw [KidsIn] at h
    rw [KidsAt]
    exact ⟨ExIn.at' hS h.1, KidsIn.at' hS h.2⟩
end

/-- an expression's value in a world -/
def exprA (e : Expr) (A : Option Addr) (cap : Nat) : Value := .agg #[.int .i64 e.kind, .int .i64 e.a, .int .i64 e.b, strV e.name, .slice A e.kids.length cap]
structure ExprOk (w : World) (S : Nat → Prop) (e : Expr) (A : Option Addr) : Prop where
  nm : e.name.length ≤ 9223372036854775807
  k1 : -9223372036854775808 ≤ e.kind
  k2 : e.kind ≤ 9223372036854775807
  kl : e.kids.length ≤ 9223372036854775807
  kv : e.kids = [] ∨ ∃ kb ko, A = some ⟨kb, ko, none⟩ ∧ S kb ∧ (∃ cs, w.heap[kb]? = some (.cells cs 48 (0, 0))) ∧ KidsIn w S kb ko e.kids
theorem ExprOk.keep {w w' : World} {S S' : Nat → Prop} {e : Expr} {A : Option Addr} (h : ExprOk w S e A) (hS : ∀ k, S k → w'.heap[k]? = w.heap[k]? ∧ S' k) : ExprOk w' S' e A :=
  ⟨h.nm, h.k1, h.k2, h.kl, h.kv.imp id fun ⟨kb, ko, h1, h2, ⟨cs, ht⟩, h3⟩ => ⟨kb, ko, h1, (hS kb h2).2, ⟨cs, (hS kb h2).1.trans ht⟩, KidsIn.keep hS h3 (hS kb h2).1⟩⟩
theorem ExprOk.val {w : World} {S : Nat → Prop} {e : Expr} {A : Option Addr} {cap : Nat} (h : ExprOk w S e A) {B : Nat} (hS : ∀ k, S k → k < B) : ExprVal w B (exprA e A cap) e :=
  ⟨A, cap, rfl, ⟨h.nm, h.k1, h.k2⟩, h.kl, h.kv.imp id fun ⟨kb, ko, h1, h2, _, h3⟩ => ⟨kb, ko, h1, hS kb h2, KidsIn.at' hS h3⟩⟩
/-- an expression without kids -/
theorem ExprOk.leaf {w : World} {S : Nat → Prop} {k x y : Int} {nm : List UInt8} (h1 : nm.length ≤ 9223372036854775807) (h2 : 0 ≤ k) (h3 : k ≤ 10) {A : Option Addr} : ExprOk w S (.mk k x y nm []) A := ⟨h1, by show _ ≤ k; omega, by show k ≤ _; omega, by show 0 ≤ _; omega, .inl rfl⟩
/-- .. at a place -/
theorem ExprOk.put {w : World} {S : Nat → Prop} {e : Expr} {A : Option Addr} {cap b o : Nat} (h : ExprOk w S e A) (c0 : w.cell? ⟨b, o, none⟩ = some (.int .i64 e.kind)) (c1 : w.cell? ⟨b, o + 1, none⟩ = some (.int .i64 e.a)) (c2 : w.cell? ⟨b, o + 2, none⟩ = some (.int .i64 e.b)) (c3 : w.cell? ⟨b, o + 3, none⟩ = some (strV e.name)) (c4 : w.cell? ⟨b, o + 4, none⟩ = some (.slice A e.kids.length cap)) : ExIn w S b o e := by
  cases e
  rw [ExIn]
  exact ⟨c0, c1, c2, c3, ⟨h.nm, h.k1, h.k2⟩, A, cap, c4, h.kl, h.kv⟩
/-- an expression with one kid, that lies in a new block -/
theorem ExprOk.one {w : World} {S : Nat → Prop} {e : Expr} {A : Option Addr} {cap : Nat} (h : ExprOk w S e A) {k x y : Int} (h2 : 0 ≤ k) (h3 : k ≤ 10) {S' : Nat → Prop} (hS : ∀ k, S k → k < w.heap.size ∧ S' k) (hg : S' w.heap.size) (T : TypeId) (hT : T = 48 := by rfl) :
    ExprOk (w.alloc (.cells #[.int .i64 e.kind, .int .i64 e.a, .int .i64 e.b, strV e.name, .slice A e.kids.length cap] T)) S' (.mk k x y [] [e]) (some ⟨w.heap.size, 0, none⟩) := by
  have B := Blk.new w T #[.int .i64 e.kind, .int .i64 e.a, .int .i64 e.b, strV e.name, .slice A e.kids.length cap]
  have h' := h.keep (w' := w.alloc (.cells #[.int .i64 e.kind, .int .i64 e.a, .int .i64 e.b, strV e.name, .slice A e.kids.length cap] T)) (S' := S') (fun k hk => ⟨((Below.refl w.heap.size w).alloc (Nat.le_refl _) _).block k (hS k hk).1, (hS k hk).2⟩)
  refine ⟨by show 0 ≤ _; omega, by show _ ≤ k; omega, by show k ≤ _; omega, by show 1 ≤ _; omega, .inr ⟨w.heap.size, 0, rfl, hg, ⟨_, by rw [← hT]; exact B⟩, ?_⟩⟩
  rw [show (Expr.mk k x y [] [e]).kids = [e] from rfl, KidsIn, KidsIn]
  exact ⟨h'.put (B.cell 0) (B.cell 1) (B.cell 2) (B.cell 3) (B.cell 4), trivial⟩
/-- .. with two -/
theorem ExprOk.two {w : World} {S : Nat → Prop} {e f : Expr} {A A2 : Option Addr} {cap cap2 : Nat} (h : ExprOk w S e A) (hf : ExprOk w S f A2) {k x y : Int} (h2 : 0 ≤ k) (h3 : k ≤ 10) {S' : Nat → Prop} (hS : ∀ k, S k → k < w.heap.size ∧ S' k) (hg : S' w.heap.size) (T : TypeId) (hT : T = 48 := by rfl) :
    ExprOk (w.alloc (.cells #[.int .i64 e.kind, .int .i64 e.a, .int .i64 e.b, strV e.name, .slice A e.kids.length cap, .int .i64 f.kind, .int .i64 f.a, .int .i64 f.b, strV f.name, .slice A2 f.kids.length cap2] T)) S' (.mk k x y [] [e, f]) (some ⟨w.heap.size, 0, none⟩) := by
  have B := Blk.new w T #[.int .i64 e.kind, .int .i64 e.a, .int .i64 e.b, strV e.name, .slice A e.kids.length cap, .int .i64 f.kind, .int .i64 f.a, .int .i64 f.b, strV f.name, .slice A2 f.kids.length cap2]
  have he := h.keep (w' := w.alloc (.cells #[.int .i64 e.kind, .int .i64 e.a, .int .i64 e.b, strV e.name, .slice A e.kids.length cap, .int .i64 f.kind, .int .i64 f.a, .int .i64 f.b, strV f.name, .slice A2 f.kids.length cap2] T)) (S' := S') (fun k hk => ⟨((Below.refl w.heap.size w).alloc (Nat.le_refl _) _).block k (hS k hk).1, (hS k hk).2⟩)
  have hf' := hf.keep (w' := w.alloc (.cells #[.int .i64 e.kind, .int .i64 e.a, .int .i64 e.b, strV e.name, .slice A e.kids.length cap, .int .i64 f.kind, .int .i64 f.a, .int .i64 f.b, strV f.name, .slice A2 f.kids.length cap2] T)) (S' := S') (fun k hk => ⟨((Below.refl w.heap.size w).alloc (Nat.le_refl _) _).block k (hS k hk).1, (hS k hk).2⟩)
  refine ⟨by show 0 ≤ _; omega, by show _ ≤ k; omega, by show k ≤ _; omega, by show 2 ≤ _; omega, .inr ⟨w.heap.size, 0, rfl, hg, ⟨_, by rw [← hT]; exact B⟩, ?_⟩⟩
  rw [show (Expr.mk k x y [] [e, f]).kids = [e, f] from rfl, KidsIn, KidsIn, KidsIn]
  exact ⟨he.put (B.cell 0) (B.cell 1) (B.cell 2) (B.cell 3) (B.cell 4), hf'.put (B.cell 5) (B.cell 6) (B.cell 7) (B.cell 8) (B.cell 9), trivial⟩
/-- blocks that are new -/
def Nw (lo : Nat) (w : World) : Nat → Prop := fun k => lo ≤ k ∧ k < w.heap.size

/-- what a parser's function comes to -/
def ParPost (R : Res Expr) (w : World) (B pb : Nat) (tv : Value) (l : List Tok) (en : Int) (r : Ending) (w' : World) : Prop := w.grownBy w' (some pb) ∧
  match R with
  | .ok e j nj => ∃ A cap, r = .returned (exprA e A cap) ∧ ExprOk w' (Nw w.heap.size w') e A ∧ ParAt w' B pb tv l en j nj ∧ nj ≤ 600
  | .bad err p => r = oopsC err p

def SubAll (f : Nat) (deep : Int) (l : List Tok) (en : Int) (sub : Nat → Nat → Res Expr) : Prop := ∀ (i nd : Nat) (w : World) (B pb : Nat) (tv : Value), ParAt w B pb tv l en i nd → nd ≤ 600 → Calls Tryd.prog f #[.pointer (some ⟨pb, 0, none⟩), .int .i64 deep] w (ParPost (sub i nd) w B pb tv l en)
theorem set_cells5 {w : World} {g : Nat} {t : TypeId} {a0 a1 a2 a3 a4 : Value} (h : Blk w g t #[a0, a1, a2, a3, a4]) : (w.cell? ⟨g, 0, none⟩ = some a0 ∧ w.cell? ⟨g, 1, none⟩ = some a1 ∧ w.cell? ⟨g, 2, none⟩ = some a2 ∧ w.cell? ⟨g, 3, none⟩ = some a3 ∧ w.cell? ⟨g, 4, none⟩ = some a4) ∧ (w.frozen? ⟨g, 0, none⟩ = false ∧ w.frozen? ⟨g, 1, none⟩ = false ∧ w.frozen? ⟨g, 2, none⟩ = false ∧ w.frozen? ⟨g, 3, none⟩ = false ∧ w.frozen? ⟨g, 4, none⟩ = false) :=
  ⟨⟨h.cell 0, h.cell 1, h.cell 2, h.cell 3, h.cell 4⟩, h.frozen 0, h.frozen 1, h.frozen 2, h.frozen 3, h.frozen 4⟩

theorem take_bad {l : List Tok} {en : Int} {i nd : Nat} {kind : Int} (h : kindP l i kind = false) : takeP l en kind i nd = failP l en 2 i := by
  unfold kindP at h
  unfold takeP
  cases ht : l[i]? with
  | none => rfl
  | some t =>
    rw [ht] at h
    have : ¬ t.1 = kind := by simpa using h
    show (if t.1 = kind then _ else _) = _
    rw [if_neg this]
theorem kind_tok {l : List Tok} {i : Nat} {kind : Int} (h : kindP l i kind = true) : ∃ t, l[i]? = some t ∧ t.1 = kind := by
  unfold kindP at h
  cases ht : l[i]? with
  | none => rw [ht] at h; cases h
  | some t => rw [ht] at h; exact ⟨t, rfl, by simpa using h⟩
theorem take_good {l : List Tok} {en : Int} {i nd : Nat} {kind : Int} {t : Tok} (h : l[i]? = some t) (hk : t.1 = kind) : takeP l en kind i nd = .ok t (i + 1) nd := by
  unfold takeP
  rw [h]
  show (if t.1 = kind then _ else _) = _
  rw [if_pos hk]
@[go_sem] theorem run_tokN (a b c : Int) (s : List UInt8) (w : World) : (Instr.field 152 (.agg #[.int .i64 a, .int .i64 b, .int .i64 c, strV s]) 1).run Tryd.prog w = .ok (.int .i64 b) w := by kernel_rfl
@[go_sem] theorem run_tokT (a b c : Int) (s : List UInt8) (w : World) : (Instr.field 152 (.agg #[.int .i64 a, .int .i64 b, .int .i64 c, strV s]) 3).run Tryd.prog w = .ok (strV s) w := by kernel_rfl
theorem fin_ok {w w5 : World} {B pb : Nat} {tv : Value} {l : List Tok} {en : Int} {i nd : Nat} {e : Expr} {A : Option Addr} {cap : Nat} {S : Nat → Prop} (hlt : pb < w.heap.size) (hP : ParAt w5 B pb tv l en i nd) (hg : w.grownBy w5 (some pb)) (hE : ExprOk w5 S e A) (hS : ∀ k, S k → w.heap.size + 1 ≤ k ∧ k < w5.heap.size) (hn : nd ≤ 600) (a0 a1 a2 a3 a4 : Value) :
    ParPost (.ok e i nd) w B pb tv l en (.returned (exprA e A cap)) (((((w5.setCell ⟨w.heap.size, 0, none⟩ a0).setCell ⟨w.heap.size, 1, none⟩ a1).setCell ⟨w.heap.size, 2, none⟩ a2).setCell ⟨w.heap.size, 3, none⟩ a3).setCell ⟨w.heap.size, 4, none⟩ a4) := by
  refine ⟨((((hg.far (Nat.le_refl _) 0 _).far (Nat.le_refl _) 1 _).far (Nat.le_refl _) 2 _).far (Nat.le_refl _) 3 _).far (Nat.le_refl _) 4 _, A, cap, rfl, hE.keep fun k hk => ⟨?_, ?_⟩, ((((hP.far hlt 0 _).far hlt 1 _).far hlt 2 _).far hlt 3 _).far hlt 4 _, hn⟩
  · have hne : k ≠ w.heap.size := by have := hS k hk; omega
    have c : ∀ (W : World) (q : Nat) (u : Value), (W.setCell ⟨w.heap.size, q, none⟩ u).heap[k]? = W.heap[k]? := fun W q u => Below.heap_setCell W ⟨w.heap.size, q, none⟩ u k hne
    rw [c, c, c, c, c]
  · have := hS k hk
    unfold Nw
    simp
    omega

theorem rnd_ok {w w8 : World} {B pb g : Nat} {tv : Value} {l : List Tok} {en : Int} {j nj : Nat} {e : Expr} {A : Option Addr} {cap : Nat} {cs : Array Value} (hlt : pb < w.heap.size) (hz : w.heap.size + 1 ≤ g) (hg8 : w.grownBy w8 (some pb)) (hP : ParAt w8 B pb tv l en j nj) (hE : ExprOk w8 (fun k => w.heap.size + 1 ≤ k ∧ k ≠ g ∧ k < w8.heap.size) e A)
    (hEb : Blk w8 g 48 cs) (hc : cs.size = 5) (hRb : Blk w8 w.heap.size 48 #[.int .i64 0, .int .i64 0, .int .i64 0, strV [], .slice none 0 0]) {W : World}
    (hW : W = ((((w8.setCell ⟨g, 0, none⟩ (.int .i64 e.kind)).setCell ⟨g, 1, none⟩ (.int .i64 e.a)).setCell ⟨g, 2, none⟩ (.int .i64 e.b)).setCell ⟨g, 3, none⟩ (strV e.name)).setCell ⟨g, 4, none⟩ (.slice A e.kids.length cap)) :
    ParAt W B pb tv l en j nj ∧ Blk W g 48 #[.int .i64 e.kind, .int .i64 e.a, .int .i64 e.b, strV e.name, .slice A e.kids.length cap] ∧ Blk W w.heap.size 48 #[.int .i64 0, .int .i64 0, .int .i64 0, strV [], .slice none 0 0] ∧ ExprOk W (fun k => w.heap.size + 1 ≤ k ∧ k ≠ g ∧ k < W.heap.size) e A ∧ w.grownBy W (some pb) := by
  subst hW
  have hpg : pb < g := by omega
  have hwg : w.heap.size ≤ g := by omega
  refine ⟨((((hP.far hpg 0 _).far hpg 1 _).far hpg 2 _).far hpg 3 _).far hpg 4 _, ?_, ((((hRb.far (by show _ ≠ g; omega) _).far (by show _ ≠ g; omega) _).far (by show _ ≠ g; omega) _).far (by show _ ≠ g; omega) _).far (by show _ ≠ g; omega) _, hE.keep fun k hk => ⟨?_, by simpa using hk⟩, ((((hg8.far hwg 0 _).far hwg 1 _).far hwg 2 _).far hwg 3 _).far hwg 4 _⟩
  · obtain ⟨l⟩ := cs
    match l, hc with
    | [a0, a1, a2, a3, a4], _ => exact ((((hEb.set 0 _).set 1 _).set 2 _).set 3 _).set 4 _
  · have c : ∀ (W : World) (q : Nat) (u : Value), (W.setCell ⟨g, q, none⟩ u).heap[k]? = W.heap[k]? := fun W q u => Below.heap_setCell W ⟨g, q, none⟩ u k hk.2.1
    rw [c, c, c, c, c]

set_option maxRecDepth 100000 in
set_option maxHeartbeats 16000000 in
theorem factor_any (deep : Int) (l : List Tok) (en : Int) (hl : l.length ≤ 1000000) (th : Nat → Nat → Res Expr) (hon : OnP l th) (hth : SubAll 124 deep l en th) : SubAll 119 deep l en (factorP l en th) := by
  intro i nd w B pb tv h hnd
  have hbA : Below w.heap.size w (w.alloc (.cells #[.int .i64 0, .int .i64 0, .int .i64 0, strV [], .slice none 0 0] 48)) := (Below.refl _ _).alloc (Nat.le_refl _) _
  have hA := h.below hbA (Nat.le_refl _)
  have hT := Lib.hid (hth i nd _ B pb tv hA hnd)
  have BR := Blk.new w 48 #[.int .i64 0, .int .i64 0, .int .i64 0, strV [], .slice none 0 0]
  have hlt := h.lt
  unfold factorP
  cases hR : th i nd with
  | bad err p =>
    rw [hR] at hT
    clear hR
    go_enter Tryd.func119, Tryd.ntmps119
    go_wp2_with (go_at_call 124; refine hT.out.mono ?_; rintro e w1 ⟨hg1, rfl⟩)
    exact ⟨rfl, grown_grown (grown_of _ hbA) hg1, rfl⟩
  | ok e0 i0 nd0 =>
    have hi0 := (hon i nd e0 i0 nd0 h.i hR).2
    rw [hR] at hT
    show Calls _ _ _ _ (ParPost (shiftsP l en (l.length + 1) e0 i0 nd0) w B pb tv l en)
    obtain ⟨R, hRR⟩ : ∃ R, R = shiftsP l en (l.length + 1) e0 i0 nd0 := ⟨_, rfl⟩
    rw [← hRR]
    replace hRR := Lib.hid hRR.symm
    clear hR
    go_enter Tryd.func119, Tryd.ntmps119
    go_wp2_with (go_at_call 124; refine hT.out.mono ?_; rintro e w1 ⟨hg1, A0, cap0, rfl, hE1, h1, hn0⟩; unfold exprA)
    have hz1 := hg1.size
    simp at hz1
    have hgw : w.grownBy w1 (some pb) := grown_grown (grown_of _ hbA) hg1
    have BR1 : Blk w1 w.heap.size 48 #[.int .i64 0, .int .i64 0, .int .i64 0, strV [], .slice none 0 0] := (hg1.block w.heap.size (by simp) (by intro e; injection e with e; omega)).trans BR
    have hgn : w1.grownBy (w1.alloc (.cells #[.int .i64 e0.kind, .int .i64 e0.a, .int .i64 e0.b, strV e0.name, .slice A0 e0.kids.length cap0] 48)) (some pb) := grown_of _ ((Below.refl _ _).alloc (Nat.le_refl _) _)
    have h2 := h1.below (B' := w1.heap.size) (w' := w1.alloc (.cells #[.int .i64 e0.kind, .int .i64 e0.a, .int .i64 e0.b, strV e0.name, .slice A0 e0.kids.length cap0] 48)) ((Below.refl _ _).alloc (Nat.le_refl _) _) (Nat.le_refl _)
    replace hE1 := Lib.hid (hE1.keep (w' := w1.alloc (.cells #[.int .i64 e0.kind, .int .i64 e0.a, .int .i64 e0.b, strV e0.name, .slice A0 e0.kids.length cap0] 48)) (S' := fun k => w.heap.size + 1 ≤ k ∧ k ≠ w1.heap.size ∧ k < w1.heap.size + 1) (fun k hk => by
      have hk' : w.heap.size + 1 ≤ k ∧ k < w1.heap.size := by have := hk; unfold Nw at this; simpa using this
      exact ⟨((Below.refl w1.heap.size w1).alloc (Nat.le_refl _) _).block k hk'.2, by omega, by omega, by omega⟩))
    have hgw2 := grown_grown hgw hgn
    have B1 := BR1.alloc (.cells #[.int .i64 e0.kind, .int .i64 e0.a, .int .i64 e0.b, strV e0.name, .slice A0 e0.kids.length cap0] 48)
    clear hA hT BR hbA hg1 hgn
    go_loopg [6] (l.length - i0) (fun q _ wr => ∃ (e : Expr) (A : Option Addr) (cap i nd f : Nat), q = l.length - i ∧ ParAt wr B pb tv l en i nd ∧ Blk wr w1.heap.size 48 #[.int .i64 e.kind, .int .i64 e.a, .int .i64 e.b, strV e.name, .slice A e.kids.length cap] ∧ Blk wr w.heap.size 48 #[.int .i64 0, .int .i64 0, .int .i64 0, strV [], .slice none 0 0] ∧ Hid (ExprOk wr (fun k => w.heap.size + 1 ≤ k ∧ k ≠ w1.heap.size ∧ k < wr.heap.size) e A) ∧ Hid (shiftsP l en f e i nd = R) ∧ l.length < f + i ∧ w.grownBy wr (some pb) ∧ nd ≤ 600)
    case atStart => exact ⟨e0, A0, cap0, i0, nd0, l.length + 1, rfl, h2, Blk.new _ _ _, B1, Lib.hid (by simpa using hE1.out), hRR, by omega, hgw2, hn0⟩
    case round =>
      clear h1 h2 BR1 hE1 hgw hgw2 B1 hRR hi0 hn0
      obtain ⟨e, A, cap, i, nd, f, hq, hP, hEb, hRb, hE, hR, hf, hgw, hn⟩ := hrel
      replace hq := Lib.hid hq
      have zw := hgw.size
      have zE := hEb.lt
      cases f with
      | zero => have := hP.i; omega
      | succ f =>
      have hsh := hR.out
      rw [shiftsP] at hsh
      cases hs : isP l i 2 shiftT with
      | false =>
        rw [hs, if_neg (by decide)] at hsh
        have hE1 := Lib.hid (eat_no l en i nd 2 shiftT wr B pb tv hP hs)
        subst hsh
        clear hs hR
        unfold shiftT at hE1
        go_wp2_with (go_at_call 91; refine hE1.out.mono ?_; rintro e5 w5 ⟨rfl, hb5⟩; obtain ⟨⟨s0, s1, s2, s3, s4⟩, _⟩ := set_cells5 (hEb.below hb5 zE); obtain ⟨⟨r0, r1, r2, r3, r4⟩, q0, q1, q2, q3, q4⟩ := set_cells5 (hRb.below hb5 (by omega)))
        have hb5g := hb5.size
        have E := (((((hRb.below hb5 (by omega)).set 0 (.int .i64 e.kind)).set 1 (.int .i64 e.a)).set 2 (.int .i64 e.b)).set 3 (strV e.name)).set 4 (.slice A e.kids.length cap)
        obtain ⟨⟨e0', e1', e2', e3', e4'⟩, _⟩ := set_cells5 (a0 := .int .i64 e.kind) (a1 := .int .i64 e.a) (a2 := .int .i64 e.b) (a3 := strV e.name) (a4 := .slice A e.kids.length cap) E
        exact bodyPost_ret (v := exprA e A cap) (by simp [results, Tryd.results119, e0', e1', e2', e3', e4', go_sem, exprA]) rfl (fin_ok hlt (hP.below hb5 (Nat.le_refl _)) (grown_below hgw hb5) (hE.out.keep (S' := fun k => w.heap.size + 1 ≤ k ∧ k < w5.heap.size) (fun k hk => ⟨hb5.block k hk.2.2, hk.1, by have := hk.2.2; omega⟩)) (fun k hk => hk) hn _ _ _ _ _)
      | true =>
        rw [hs, if_pos rfl] at hsh
        have hil := isP_lt hs
        have hE1 := Lib.hid (eat_yes l en i nd 2 shiftT wr B pb tv hP hs hl)
        unfold shiftT at hE1
        clear hs
        cases hs2 : isP l (i + 1) 3 [45] with
        | false =>
          simp only [hs2, if_false, Bool.false_eq_true] at hsh
          go_wp2_with fail
          refine hE1.out.mono ?_
          rintro e5 w5 ⟨rfl, hg5, hP5⟩
          go_wp2_with fail
          refine (eat_no l en (i + 1) nd 3 [45] w5 B pb tv hP5 hs2).mono ?_
          rintro e6 w6 ⟨rfl, hb6⟩
          have hP6 := hP5.below hb6 (Nat.le_refl _)
          have hg56 := grown_below hg5 hb6
          have c6 : w6.cell? ⟨pb, 1, none⟩ = some (.int .i64 ((i + 1) : Nat)) := Blk.cell hP6.blk 1
          have zp6 := hP6.lt
          have hgw6 := grown_grown hgw hg56
          cases hk : kindP l (i + 1) 6 with
          | false =>
            have hR2 : R = .bad 2 (hereP l en (i + 1)) := by rw [← hsh, take_bad hk]; rfl
            clear hsh hR hE1 hE
            go_wp2_with fail
            refine (take_no l en (i + 1) nd 6 w6 B pb tv hP6 hk).mono ?_
            rintro e7 w7 ⟨rfl, hg7⟩
            go_wp2_with fail
            subst hR2; exact ⟨rfl, grown_grown hgw6 hg7, rfl⟩
          | true =>
            obtain ⟨t, ht, ht1⟩ := kind_tok hk
            rw [take_good ht ht1] at hsh
            replace hsh : (if t.2.1 < 1 ∨ 1440 ≤ t.2.1 then failP l en 3 (i + 1) else (nodeP l en (Expr.mk 9 (1 * t.2.1) 0 [] [e]) ((i + 1) + 1) nd).bind (shiftsP l en f)) = R := hsh
            go_wp2_with fail
            refine (take_yes l en (i + 1) nd 6 t w6 B pb tv hP6 ht ht1 hl).mono ?_
            rintro e7 w7 ⟨rfl, hg7, hP7⟩
            unfold tokA
            have p1 : w7.cell? ⟨pb, 1, none⟩ = some (.int .i64 ((i + 1 + 1 : Nat) : Int)) := Blk.cell hP7.blk 1
            have pf1 : w7.frozen? ⟨pb, 1, none⟩ = false := Blk.frozen hP7.blk 1
            have z7 := hP7.lt
            have hz7 := (grown_grown hg56 hg7).size
            rcases dec (t.2.1 < 1) with ⟨q, hv1⟩ | ⟨q, hv1⟩
            · have hv : t.2.1 < 1 ∨ 1440 ≤ t.2.1 := .inl hv1
              rw [if_pos hv] at hsh
              subst hsh
              have hst := hP7.step (j := i + 1) (by have := hP7.i; omega)
              clear hR hE hE1
              go_wp2_with fail
              refine (fail_any l en (i + 1) nd 3 (w7.setCell ⟨pb, 1, none⟩ (.int .i64 ((i + 1 : Nat) : Int))) B pb tv hst.1).mono ?_
              rintro e8 w8 ⟨rfl, hb8⟩
              go_wp2_with fail
              exact ⟨rfl, grown_below (grown_grown (grown_grown hgw6 hg7) hst.2) hb8, rfl⟩
            rcases dec ((1440 : Int) ≤ t.2.1) with ⟨q2, hv2⟩ | ⟨q2, hv2⟩
            · have hv : t.2.1 < 1 ∨ 1440 ≤ t.2.1 := .inr hv2
              rw [if_pos hv] at hsh
              subst hsh
              have hst := hP7.step (j := i + 1) (by have := hP7.i; omega)
              clear hR hE hE1
              go_wp2_with fail
              refine (fail_any l en (i + 1) nd 3 (w7.setCell ⟨pb, 1, none⟩ (.int .i64 ((i + 1 : Nat) : Int))) B pb tv hst.1).mono ?_
              rintro e8 w8 ⟨rfl, hb8⟩
              go_wp2_with fail
              exact ⟨rfl, grown_below (grown_grown (grown_grown hgw6 hg7) hst.2) hb8, rfl⟩
            rw [if_neg (by omega)] at hsh
            replace hsh := Lib.hid hsh
            clear hR hE1
            have hEb7 : Blk w7 w1.heap.size 48 #[.int .i64 e.kind, .int .i64 e.a, .int .i64 e.b, strV e.name, .slice A e.kids.length cap] := ((grown_grown hg56 hg7).block w1.heap.size zE (by intro e; injection e with e; omega)).trans hEb
            obtain ⟨⟨s0, s1, s2, s3, s4⟩, t0, t1, t2, t3, t4⟩ := set_cells5 hEb7
            have hbW : Below w7.heap.size w7 (w7.alloc (.cells #[.int .i64 e.kind, .int .i64 e.a, .int .i64 e.b, strV e.name, .slice A e.kids.length cap] 48)) := (Below.refl _ _).alloc (Nat.le_refl _) _
            have hgW : w7.grownBy (w7.alloc (.cells #[.int .i64 e.kind, .int .i64 e.a, .int .i64 e.b, strV e.name, .slice A e.kids.length cap] 48)) (some pb) := grown_of _ hbW
            have hPW := hP7.below (B' := w7.heap.size) hbW (Nat.le_refl _)
            have hg07 := grown_grown hg56 hg7
            have O := Lib.hid ((hE.out.keep (w' := w7) (S' := fun k => w.heap.size + 1 ≤ k ∧ k ≠ w1.heap.size ∧ k < w7.heap.size) (fun k hk => ⟨hg07.block k hk.2.2 (by intro e; injection e with e; have := hk.1; omega), hk.1, hk.2.1, by have := hk.2.2; omega⟩)).one (cap := cap) (k := 9) (x := 1 * t.2.1) (y := 0) (by decide) (by decide) (S' := fun k => w.heap.size + 1 ≤ k ∧ k ≠ w1.heap.size ∧ k < w7.heap.size + 1) (fun k hk => ⟨hk.2.2, hk.1, hk.2.1, by have := hk.2.2; omega⟩) ⟨by omega, by omega, by omega⟩ 48)
            clear hE
            rw [Int.one_mul] at O
            go_wp2_with fail
            by_cases hn6 : 600 < nd + 1
            · have hsh := hsh.out
              rw [Int.one_mul] at hsh
              unfold nodeP at hsh
              rw [if_pos hn6] at hsh
              subst hsh
              refine (node_no l en (i + 1 + 1) nd 9 t.2.1 0 [] (some ⟨w7.heap.size, 0, none⟩) 1 1 (w7.alloc (.cells #[.int .i64 e.kind, .int .i64 e.a, .int .i64 e.b, strV e.name, .slice A e.kids.length cap] 48)) B pb tv hPW hn6 hn).mono ?_
              rintro e8 w8 ⟨rfl, hg8⟩
              go_wp2_with fail
              exact ⟨rfl, grown_grown (grown_grown (grown_grown hgw6 hg7) hgW) hg8, rfl⟩
            · have hsh := hsh.out
              rw [Int.one_mul] at hsh
              unfold nodeP at hsh
              rw [if_neg hn6] at hsh
              replace hsh : shiftsP l en f (Expr.mk 9 t.2.1 0 [] [e]) (i + 1 + 1) (nd + 1) = R := hsh
              refine (node_yes l en (i + 1 + 1) nd 9 t.2.1 0 [] (some ⟨w7.heap.size, 0, none⟩) 1 1 (w7.alloc (.cells #[.int .i64 e.kind, .int .i64 e.a, .int .i64 e.b, strV e.name, .slice A e.kids.length cap] 48)) B pb tv hPW hn6).mono ?_
              rintro e8 w8 ⟨rfl, hg8, hP8⟩
              have hEb8 := (hg8.block w1.heap.size (by simp; omega) (by intro e; injection e with e; omega)).trans (hEb7.alloc (.cells #[.int .i64 e.kind, .int .i64 e.a, .int .i64 e.b, strV e.name, .slice A e.kids.length cap] 48))
              obtain ⟨⟨u0, u1, u2, u3, u4⟩, v0, v1, v2, v3, v4⟩ := set_cells5 hEb8
              go_wp2_with fail
              have hg28 := grown_grown hg07 (grown_grown hgW hg8)
              have hR8 : Blk w8 w.heap.size 48 #[.int .i64 0, .int .i64 0, .int .i64 0, strV [], .slice none 0 0] := (hg28.block w.heap.size (by omega) (by intro e; injection e with e; omega)).trans hRb
              have hz8 := hg8.size
              simp at hz8
              obtain ⟨r1, r2, r3, r4, r5⟩ := rnd_ok (w := w) (cap := 1) hlt hz1 (grown_grown hgw hg28) hP8 (O.out.keep (w' := w8) (S' := fun k => w.heap.size + 1 ≤ k ∧ k ≠ w1.heap.size ∧ k < w8.heap.size) (fun k hk => ⟨hg8.block k (by simp; exact hk.2.2) (by intro e; injection e with e; have := hk.1; omega), hk.1, hk.2.1, by have := hk.2.2; omega⟩)) hEb8 rfl hR8 rfl
              go_roundg (l.length - (i + 1 + 1))
              exact ⟨Expr.mk 9 (t.2.1) 0 [] [e], some ⟨w7.heap.size, 0, none⟩, 1, i + 1 + 1, nd + 1, f, rfl, r1, r2, r3, Lib.hid r4, Lib.hid hsh, by omega, r5, by omega⟩
              have := hP8.i
              rw [hq.out]
              omega
        | true =>
          simp only [hs2, if_true] at hsh
          go_wp2_with fail
          refine hE1.out.mono ?_
          rintro e5 w5 ⟨rfl, hg5, hP5⟩
          go_wp2_with fail
          refine (eat_yes l en (i + 1) nd 3 [45] w5 B pb tv hP5 hs2 hl).mono ?_
          rintro e6 w6 ⟨rfl, hg6, hP6⟩
          have hg56 := grown_grown hg5 hg6
          have c6 : w6.cell? ⟨pb, 1, none⟩ = some (.int .i64 ((i + 2) : Nat)) := Blk.cell hP6.blk 1
          have zp6 := hP6.lt
          have hgw6 := grown_grown hgw hg56
          cases hk : kindP l (i + 2) 6 with
          | false =>
            have hR2 : R = .bad 2 (hereP l en (i + 2)) := by rw [← hsh, take_bad hk]; rfl
            clear hsh hR hE1 hE
            go_wp2_with fail
            refine (take_no l en (i + 2) nd 6 w6 B pb tv hP6 hk).mono ?_
            rintro e7 w7 ⟨rfl, hg7⟩
            go_wp2_with fail
            subst hR2; exact ⟨rfl, grown_grown hgw6 hg7, rfl⟩
          | true =>
            obtain ⟨t, ht, ht1⟩ := kind_tok hk
            rw [take_good ht ht1] at hsh
            replace hsh : (if t.2.1 < 1 ∨ 1440 ≤ t.2.1 then failP l en 3 (i + 2) else (nodeP l en (Expr.mk 9 (-1 * t.2.1) 0 [] [e]) ((i + 2) + 1) nd).bind (shiftsP l en f)) = R := hsh
            go_wp2_with fail
            refine (take_yes l en (i + 2) nd 6 t w6 B pb tv hP6 ht ht1 hl).mono ?_
            rintro e7 w7 ⟨rfl, hg7, hP7⟩
            unfold tokA
            have p1 : w7.cell? ⟨pb, 1, none⟩ = some (.int .i64 ((i + 2 + 1 : Nat) : Int)) := Blk.cell hP7.blk 1
            have pf1 : w7.frozen? ⟨pb, 1, none⟩ = false := Blk.frozen hP7.blk 1
            have z7 := hP7.lt
            have hz7 := (grown_grown hg56 hg7).size
            rcases dec (t.2.1 < 1) with ⟨q, hv1⟩ | ⟨q, hv1⟩
            · have hv : t.2.1 < 1 ∨ 1440 ≤ t.2.1 := .inl hv1
              rw [if_pos hv] at hsh
              subst hsh
              have hst := hP7.step (j := i + 2) (by have := hP7.i; omega)
              clear hR hE hE1
              go_wp2_with fail
              refine (fail_any l en (i + 2) nd 3 (w7.setCell ⟨pb, 1, none⟩ (.int .i64 ((i + 2 : Nat) : Int))) B pb tv hst.1).mono ?_
              rintro e8 w8 ⟨rfl, hb8⟩
              go_wp2_with fail
              exact ⟨rfl, grown_below (grown_grown (grown_grown hgw6 hg7) hst.2) hb8, rfl⟩
            rcases dec ((1440 : Int) ≤ t.2.1) with ⟨q2, hv2⟩ | ⟨q2, hv2⟩
            · have hv : t.2.1 < 1 ∨ 1440 ≤ t.2.1 := .inr hv2
              rw [if_pos hv] at hsh
              subst hsh
              have hst := hP7.step (j := i + 2) (by have := hP7.i; omega)
              clear hR hE hE1
              go_wp2_with fail
              refine (fail_any l en (i + 2) nd 3 (w7.setCell ⟨pb, 1, none⟩ (.int .i64 ((i + 2 : Nat) : Int))) B pb tv hst.1).mono ?_
              rintro e8 w8 ⟨rfl, hb8⟩
              go_wp2_with fail
              exact ⟨rfl, grown_below (grown_grown (grown_grown hgw6 hg7) hst.2) hb8, rfl⟩
            rw [if_neg (by omega)] at hsh
            replace hsh := Lib.hid hsh
            clear hR hE1
            have hEb7 : Blk w7 w1.heap.size 48 #[.int .i64 e.kind, .int .i64 e.a, .int .i64 e.b, strV e.name, .slice A e.kids.length cap] := ((grown_grown hg56 hg7).block w1.heap.size zE (by intro e; injection e with e; omega)).trans hEb
            obtain ⟨⟨s0, s1, s2, s3, s4⟩, t0, t1, t2, t3, t4⟩ := set_cells5 hEb7
            have hbW : Below w7.heap.size w7 (w7.alloc (.cells #[.int .i64 e.kind, .int .i64 e.a, .int .i64 e.b, strV e.name, .slice A e.kids.length cap] 48)) := (Below.refl _ _).alloc (Nat.le_refl _) _
            have hgW : w7.grownBy (w7.alloc (.cells #[.int .i64 e.kind, .int .i64 e.a, .int .i64 e.b, strV e.name, .slice A e.kids.length cap] 48)) (some pb) := grown_of _ hbW
            have hPW := hP7.below (B' := w7.heap.size) hbW (Nat.le_refl _)
            have hg07 := grown_grown hg56 hg7
            have O := Lib.hid ((hE.out.keep (w' := w7) (S' := fun k => w.heap.size + 1 ≤ k ∧ k ≠ w1.heap.size ∧ k < w7.heap.size) (fun k hk => ⟨hg07.block k hk.2.2 (by intro e; injection e with e; have := hk.1; omega), hk.1, hk.2.1, by have := hk.2.2; omega⟩)).one (cap := cap) (k := 9) (x := -1 * t.2.1) (y := 0) (by decide) (by decide) (S' := fun k => w.heap.size + 1 ≤ k ∧ k ≠ w1.heap.size ∧ k < w7.heap.size + 1) (fun k hk => ⟨hk.2.2, hk.1, hk.2.1, by have := hk.2.2; omega⟩) ⟨by omega, by omega, by omega⟩ 48)
            clear hE
            rw [show -1 * t.2.1 = -t.2.1 from by omega] at O
            go_wp2_with fail
            by_cases hn6 : 600 < nd + 1
            · have hsh := hsh.out
              rw [show -1 * t.2.1 = -t.2.1 from by omega] at hsh
              unfold nodeP at hsh
              rw [if_pos hn6] at hsh
              subst hsh
              refine (node_no l en (i + 2 + 1) nd 9 (-t.2.1) 0 [] (some ⟨w7.heap.size, 0, none⟩) 1 1 (w7.alloc (.cells #[.int .i64 e.kind, .int .i64 e.a, .int .i64 e.b, strV e.name, .slice A e.kids.length cap] 48)) B pb tv hPW hn6 hn).mono ?_
              rintro e8 w8 ⟨rfl, hg8⟩
              go_wp2_with fail
              exact ⟨rfl, grown_grown (grown_grown (grown_grown hgw6 hg7) hgW) hg8, rfl⟩
            · have hsh := hsh.out
              rw [show -1 * t.2.1 = -t.2.1 from by omega] at hsh
              unfold nodeP at hsh
              rw [if_neg hn6] at hsh
              replace hsh : shiftsP l en f (Expr.mk 9 (-t.2.1) 0 [] [e]) (i + 2 + 1) (nd + 1) = R := hsh
              refine (node_yes l en (i + 2 + 1) nd 9 (-t.2.1) 0 [] (some ⟨w7.heap.size, 0, none⟩) 1 1 (w7.alloc (.cells #[.int .i64 e.kind, .int .i64 e.a, .int .i64 e.b, strV e.name, .slice A e.kids.length cap] 48)) B pb tv hPW hn6).mono ?_
              rintro e8 w8 ⟨rfl, hg8, hP8⟩
              have hEb8 := (hg8.block w1.heap.size (by simp; omega) (by intro e; injection e with e; omega)).trans (hEb7.alloc (.cells #[.int .i64 e.kind, .int .i64 e.a, .int .i64 e.b, strV e.name, .slice A e.kids.length cap] 48))
              obtain ⟨⟨u0, u1, u2, u3, u4⟩, v0, v1, v2, v3, v4⟩ := set_cells5 hEb8
              go_wp2_with fail
              have hg28 := grown_grown hg07 (grown_grown hgW hg8)
              have hR8 : Blk w8 w.heap.size 48 #[.int .i64 0, .int .i64 0, .int .i64 0, strV [], .slice none 0 0] := (hg28.block w.heap.size (by omega) (by intro e; injection e with e; omega)).trans hRb
              have hz8 := hg8.size
              simp at hz8
              obtain ⟨r1, r2, r3, r4, r5⟩ := rnd_ok (w := w) (cap := 1) hlt hz1 (grown_grown hgw hg28) hP8 (O.out.keep (w' := w8) (S' := fun k => w.heap.size + 1 ≤ k ∧ k ≠ w1.heap.size ∧ k < w8.heap.size) (fun k hk => ⟨hg8.block k (by simp; exact hk.2.2) (by intro e; injection e with e; have := hk.1; omega), hk.1, hk.2.1, by have := hk.2.2; omega⟩)) hEb8 rfl hR8 rfl
              go_roundg (l.length - (i + 2 + 1))
              exact ⟨Expr.mk 9 (-t.2.1) 0 [] [e], some ⟨w7.heap.size, 0, none⟩, 1, i + 2 + 1, nd + 1, f, rfl, r1, r2, r3, Lib.hid r4, Lib.hid hsh, by omega, r5, by omega⟩
              have := hP8.i
              rw [hq.out]
              omega

end Ru
end Go.Proofs.YtbadplbdgpbdaaaDoor

namespace Go.Proofs.YtbadplbdgpbdaaaDoor
open Go.RowKit
namespace Ru
open Lx
open Sl (strV Reads)

set_option maxRecDepth 100000 in
set_option maxHeartbeats 16000000 in
theorem term_any (deep : Int) (l : List Tok) (en : Int) (hl : l.length ≤ 1000000) (fa : Nat → Nat → Res Expr) (hon : OnP l fa) (hfa : SubAll 119 deep l en fa) : SubAll 111 deep l en (fun i nd => (fa i nd).bind (signsP l en (andP l) fa (l.length + 1))) := by
  intro i nd w B pb tv h hnd
  have hbA : Below w.heap.size w (w.alloc (.cells #[.int .i64 0, .int .i64 0, .int .i64 0, strV [], .slice none 0 0] 48)) := (Below.refl _ _).alloc (Nat.le_refl _) _
  have hA := h.below hbA (Nat.le_refl _)
  have hT := Lib.hid (hfa i nd _ B pb tv hA hnd)
  have BR := Blk.new w 48 #[.int .i64 0, .int .i64 0, .int .i64 0, strV [], .slice none 0 0]
  have hlt := h.lt
  show Calls _ _ _ _ (ParPost ((fa i nd).bind (signsP l en (andP l) fa (l.length + 1))) w B pb tv l en)
  cases hR : fa i nd with
  | bad err p =>
    rw [hR] at hT
    clear hR
    go_enter Tryd.func111, Tryd.ntmps111
    go_wp2_with (go_at_call 119; refine hT.out.mono ?_; rintro e w1 ⟨hg1, rfl⟩)
    exact ⟨rfl, grown_grown (grown_of _ hbA) hg1, rfl⟩
  | ok e0 i0 nd0 =>
    have hi0 := (hon i nd e0 i0 nd0 h.i hR).2
    rw [hR] at hT
    show Calls _ _ _ _ (ParPost (signsP l en (andP l) fa (l.length + 1) e0 i0 nd0) w B pb tv l en)
    obtain ⟨R, hRR⟩ : ∃ R, R = signsP l en (andP l) fa (l.length + 1) e0 i0 nd0 := ⟨_, rfl⟩
    rw [← hRR]
    replace hRR := Lib.hid hRR.symm
    clear hR
    go_enter Tryd.func111, Tryd.ntmps111
    go_wp2_with (go_at_call 119; refine hT.out.mono ?_; rintro e w1 ⟨hg1, A0, cap0, rfl, hE1, h1, hn0⟩; unfold exprA)
    have hz1 := hg1.size
    simp at hz1
    have hgw : w.grownBy w1 (some pb) := grown_grown (grown_of _ hbA) hg1
    have BR1 : Blk w1 w.heap.size 48 #[.int .i64 0, .int .i64 0, .int .i64 0, strV [], .slice none 0 0] := (hg1.block w.heap.size (by simp) (by intro e; injection e with e; omega)).trans BR
    have hgn : w1.grownBy (w1.alloc (.cells #[.int .i64 e0.kind, .int .i64 e0.a, .int .i64 e0.b, strV e0.name, .slice A0 e0.kids.length cap0] 48)) (some pb) := grown_of _ ((Below.refl _ _).alloc (Nat.le_refl _) _)
    have h2 := h1.below (B' := w1.heap.size) (w' := w1.alloc (.cells #[.int .i64 e0.kind, .int .i64 e0.a, .int .i64 e0.b, strV e0.name, .slice A0 e0.kids.length cap0] 48)) ((Below.refl _ _).alloc (Nat.le_refl _) _) (Nat.le_refl _)
    replace hE1 := Lib.hid (hE1.keep (w' := w1.alloc (.cells #[.int .i64 e0.kind, .int .i64 e0.a, .int .i64 e0.b, strV e0.name, .slice A0 e0.kids.length cap0] 48)) (S' := fun k => w.heap.size + 1 ≤ k ∧ k ≠ w1.heap.size ∧ k < w1.heap.size + 1) (fun k hk => by
      have hk' : w.heap.size + 1 ≤ k ∧ k < w1.heap.size := by have := hk; unfold Nw at this; simpa using this
      exact ⟨((Below.refl w1.heap.size w1).alloc (Nat.le_refl _) _).block k hk'.2, by omega, by omega, by omega⟩))
    have hgw2 := grown_grown hgw hgn
    have B1 := BR1.alloc (.cells #[.int .i64 e0.kind, .int .i64 e0.a, .int .i64 e0.b, strV e0.name, .slice A0 e0.kids.length cap0] 48)
    clear hA hT BR hbA hg1 hgn
    go_loopg [6] (l.length - i0) (fun q _ wr => ∃ (e : Expr) (A : Option Addr) (cap i nd f : Nat), q = l.length - i ∧ ParAt wr B pb tv l en i nd ∧ Blk wr w1.heap.size 48 #[.int .i64 e.kind, .int .i64 e.a, .int .i64 e.b, strV e.name, .slice A e.kids.length cap] ∧ Blk wr w.heap.size 48 #[.int .i64 0, .int .i64 0, .int .i64 0, strV [], .slice none 0 0] ∧ Hid (ExprOk wr (fun k => w.heap.size + 1 ≤ k ∧ k ≠ w1.heap.size ∧ k < wr.heap.size) e A) ∧ Hid (signsP l en (andP l) fa f e i nd = R) ∧ l.length < f + i ∧ w.grownBy wr (some pb) ∧ nd ≤ 600)
    case atStart => exact ⟨e0, A0, cap0, i0, nd0, l.length + 1, rfl, h2, Blk.new _ _ _, B1, Lib.hid (by simpa using hE1.out), hRR, by omega, hgw2, hn0⟩
    case round =>
      clear h1 h2 BR1 hE1 hgw hgw2 B1 hRR hi0 hn0
      obtain ⟨e, A, cap, i, nd, f, hq, hP, hEb, hRb, hE, hR, hf, hgw, hn⟩ := hrel
      replace hq := Lib.hid hq
      have zw := hgw.size
      have zE := hEb.lt
      cases f with
      | zero => have := hP.i; omega
      | succ f =>
      have hsh := hR.out
      rw [signsP] at hsh
      cases hs : isP l i 3 [38] with
      | false =>
        rw [show andP l i = 0 from by unfold andP; rw [hs]; rfl, if_pos rfl] at hsh
        have hE1 := Lib.hid (eat_no l en i nd 3 [38] wr B pb tv hP hs)
        subst hsh
        clear hs hR
        go_wp2_with (go_at_call 91; refine hE1.out.mono ?_; rintro e5 w5 ⟨rfl, hb5⟩; obtain ⟨⟨s0, s1, s2, s3, s4⟩, _⟩ := set_cells5 (hEb.below hb5 zE); obtain ⟨⟨r0, r1, r2, r3, r4⟩, q0, q1, q2, q3, q4⟩ := set_cells5 (hRb.below hb5 (by omega)))
        have hb5g := hb5.size
        have E := (((((hRb.below hb5 (by omega)).set 0 (.int .i64 e.kind)).set 1 (.int .i64 e.a)).set 2 (.int .i64 e.b)).set 3 (strV e.name)).set 4 (.slice A e.kids.length cap)
        obtain ⟨⟨e0', e1', e2', e3', e4'⟩, _⟩ := set_cells5 (a0 := .int .i64 e.kind) (a1 := .int .i64 e.a) (a2 := .int .i64 e.b) (a3 := strV e.name) (a4 := .slice A e.kids.length cap) E
        exact bodyPost_ret (v := exprA e A cap) (by simp [results, Tryd.results111, e0', e1', e2', e3', e4', go_sem, exprA]) rfl (fin_ok hlt (hP.below hb5 (Nat.le_refl _)) (grown_below hgw hb5) (hE.out.keep (S' := fun k => w.heap.size + 1 ≤ k ∧ k < w5.heap.size) (fun k hk => ⟨hb5.block k hk.2.2, hk.1, by have := hk.2.2; omega⟩)) (fun k hk => hk) hn _ _ _ _ _)
      | true =>
        rw [show andP l i = 8 from by unfold andP; rw [hs]; rfl, if_neg (by decide)] at hsh
        have hil := isP_lt hs
        have hE1 := Lib.hid (eat_yes l en i nd 3 [38] wr B pb tv hP hs hl)
        clear hs
        go_wp2_with fail
        refine hE1.out.mono ?_
        rintro e5 w5 ⟨rfl, hg5, hP5⟩
        clear hE1
        have hF := Lib.hid (hfa (i + 1) nd w5 B pb tv hP5 hn)
        cases hk : fa (i + 1) nd with
        | bad err p =>
          rw [hk] at hsh hF
          replace hsh : Res.bad err p = R := hsh
          subst hsh
          clear hR hE hk
          go_wp2_with fail
          refine hF.out.mono ?_
          rintro e6 w6 ⟨hg6, rfl⟩
          go_wp2_with fail
          exact ⟨rfl, grown_grown (grown_grown hgw hg5) hg6, rfl⟩
        | ok e2 j nj =>
          have hjl := (hon (i + 1) nd e2 j nj (by omega) hk).1
          rw [hk] at hsh hF
          replace hsh : (nodeP l en (Expr.mk 8 0 0 [] [e, e2]) j nj).bind (signsP l en (andP l) fa f) = R := hsh
          clear hR hk
          go_wp2_with fail
          refine hF.out.mono ?_
          rintro e6 w6 ⟨hg6, A2, cap2, rfl, hE2, hP6, hn6⟩
          unfold exprA
          have hg06 := grown_grown hg5 hg6
          have hz5 := hg5.size
          have hz6 := hg6.size
          have hEb6 : Blk w6 w1.heap.size 48 #[.int .i64 e.kind, .int .i64 e.a, .int .i64 e.b, strV e.name, .slice A e.kids.length cap] := (hg06.block w1.heap.size zE (by intro e; injection e with e; omega)).trans hEb
          have hEb7 := hEb6.alloc (.cells #[.int .i64 e2.kind, .int .i64 e2.a, .int .i64 e2.b, strV e2.name, .slice A2 e2.kids.length cap2] 48)
          obtain ⟨⟨s0, s1, s2, s3, s4⟩, t0, t1, t2, t3, t4⟩ := set_cells5 hEb7
          have hb67 : Below w6.heap.size w6 (w6.alloc (.cells #[.int .i64 e2.kind, .int .i64 e2.a, .int .i64 e2.b, strV e2.name, .slice A2 e2.kids.length cap2] 48)) := (Below.refl _ _).alloc (Nat.le_refl _) _
          have hbW : Below w6.heap.size w6 ((w6.alloc (.cells #[.int .i64 e2.kind, .int .i64 e2.a, .int .i64 e2.b, strV e2.name, .slice A2 e2.kids.length cap2] 48)).alloc (.cells #[.int .i64 e.kind, .int .i64 e.a, .int .i64 e.b, strV e.name, .slice A e.kids.length cap, .int .i64 e2.kind, .int .i64 e2.a, .int .i64 e2.b, strV e2.name, .slice A2 e2.kids.length cap2] 48)) := hb67.alloc (by simp) _
          have hgW : w6.grownBy ((w6.alloc (.cells #[.int .i64 e2.kind, .int .i64 e2.a, .int .i64 e2.b, strV e2.name, .slice A2 e2.kids.length cap2] 48)).alloc (.cells #[.int .i64 e.kind, .int .i64 e.a, .int .i64 e.b, strV e.name, .slice A e.kids.length cap, .int .i64 e2.kind, .int .i64 e2.a, .int .i64 e2.b, strV e2.name, .slice A2 e2.kids.length cap2] 48)) (some pb) := grown_of _ hbW
          have hPW := hP6.below (B' := w6.heap.size) hbW (Nat.le_refl _)
          have K1 := hE.out.keep (w' := (w6.alloc (.cells #[.int .i64 e2.kind, .int .i64 e2.a, .int .i64 e2.b, strV e2.name, .slice A2 e2.kids.length cap2] 48))) (S' := fun k => w.heap.size + 1 ≤ k ∧ k ≠ w1.heap.size ∧ k < w6.heap.size + 1) (fun k hk => ⟨(hb67.block k (by have := hk.2.2; omega)).trans (hg06.block k hk.2.2 (by intro e; injection e with e; have := hk.1; omega)), hk.1, hk.2.1, by have := hk.2.2; omega⟩)
          have K2 := hE2.keep (w' := (w6.alloc (.cells #[.int .i64 e2.kind, .int .i64 e2.a, .int .i64 e2.b, strV e2.name, .slice A2 e2.kids.length cap2] 48))) (S' := fun k => w.heap.size + 1 ≤ k ∧ k ≠ w1.heap.size ∧ k < w6.heap.size + 1) (fun k hk => ⟨hb67.block k hk.2, by have := hk.1; omega, by have := hk.1; omega, by have := hk.2; omega⟩)
          have O := Lib.hid (K1.two (cap := cap) (cap2 := cap2) K2 (k := 8) (x := 0) (y := 0) (by decide) (by decide) (S' := fun k => w.heap.size + 1 ≤ k ∧ k ≠ w1.heap.size ∧ k < w6.heap.size + 2) (fun k hk => ⟨by simp; exact hk.2.2, hk.1, hk.2.1, by have := hk.2.2; omega⟩) ⟨by simp; omega, by simp; omega, by simp⟩ 48)
          rw [show ((w6.alloc (.cells #[.int .i64 e2.kind, .int .i64 e2.a, .int .i64 e2.b, strV e2.name, .slice A2 e2.kids.length cap2] 48))).heap.size = w6.heap.size + 1 from by simp] at O
          clear hE K1 K2 hE2
          replace hsh := Lib.hid hsh
          go_wp2_with fail
          by_cases hn7 : 600 < nj + 1
          · have hsh := hsh.out
            unfold nodeP at hsh
            rw [if_pos hn7] at hsh
            subst hsh
            refine (node_no l en j nj 8 0 0 [] (some ⟨w6.heap.size + 1, 0, none⟩) 2 2 ((w6.alloc (.cells #[.int .i64 e2.kind, .int .i64 e2.a, .int .i64 e2.b, strV e2.name, .slice A2 e2.kids.length cap2] 48)).alloc (.cells #[.int .i64 e.kind, .int .i64 e.a, .int .i64 e.b, strV e.name, .slice A e.kids.length cap, .int .i64 e2.kind, .int .i64 e2.a, .int .i64 e2.b, strV e2.name, .slice A2 e2.kids.length cap2] 48)) B pb tv hPW hn7 hn6).mono ?_
            rintro e8 w8 ⟨rfl, hg8⟩
            go_wp2_with fail
            exact ⟨rfl, grown_grown (grown_grown (grown_grown hgw hg06) hgW) hg8, rfl⟩
          · have hsh := hsh.out
            unfold nodeP at hsh
            rw [if_neg hn7] at hsh
            replace hsh : signsP l en (andP l) fa f (Expr.mk 8 0 0 [] [e, e2]) j (nj + 1) = R := hsh
            refine (node_yes l en j nj 8 0 0 [] (some ⟨w6.heap.size + 1, 0, none⟩) 2 2 ((w6.alloc (.cells #[.int .i64 e2.kind, .int .i64 e2.a, .int .i64 e2.b, strV e2.name, .slice A2 e2.kids.length cap2] 48)).alloc (.cells #[.int .i64 e.kind, .int .i64 e.a, .int .i64 e.b, strV e.name, .slice A e.kids.length cap, .int .i64 e2.kind, .int .i64 e2.a, .int .i64 e2.b, strV e2.name, .slice A2 e2.kids.length cap2] 48)) B pb tv hPW hn7).mono ?_
            rintro e8 w8 ⟨rfl, hg8, hP8⟩
            have hEb8 := (hg8.block w1.heap.size (by simp; omega) (by intro e; injection e with e; omega)).trans (hEb7.alloc (.cells #[.int .i64 e.kind, .int .i64 e.a, .int .i64 e.b, strV e.name, .slice A e.kids.length cap, .int .i64 e2.kind, .int .i64 e2.a, .int .i64 e2.b, strV e2.name, .slice A2 e2.kids.length cap2] 48))
            obtain ⟨⟨u0, u1, u2, u3, u4⟩, v0, v1, v2, v3, v4⟩ := set_cells5 hEb8
            go_wp2_with fail
            have hg28 := grown_grown hg06 (grown_grown hgW hg8)
            have hR8 : Blk w8 w.heap.size 48 #[.int .i64 0, .int .i64 0, .int .i64 0, strV [], .slice none 0 0] := (hg28.block w.heap.size (by omega) (by intro e; injection e with e; omega)).trans hRb
            have hz8 := hg8.size
            simp at hz8
            obtain ⟨r1, r2, r3, r4, r5⟩ := rnd_ok (w := w) (cap := 2) hlt hz1 (grown_grown hgw hg28) hP8 (O.out.keep (w' := w8) (S' := fun k => w.heap.size + 1 ≤ k ∧ k ≠ w1.heap.size ∧ k < w8.heap.size) (fun k hk => ⟨hg8.block k (by simp; exact hk.2.2) (by intro e; injection e with e; have := hk.1; omega), hk.1, hk.2.1, by have := hk.2.2; omega⟩)) hEb8 rfl hR8 rfl
            go_roundg (l.length - j)
            exact ⟨Expr.mk 8 0 0 [] [e, e2], some ⟨w6.heap.size + 1, 0, none⟩, 2, j, nj + 1, f, rfl, r1, r2, r3, Lib.hid r4, Lib.hid hsh, by omega, r5, by omega⟩
            have := hP8.i
            rw [hq.out]
            omega

end Ru
end Go.Proofs.YtbadplbdgpbdaaaDoor

namespace Go.Proofs.YtbadplbdgpbdaaaDoor
open Go.RowKit
namespace Ru
open Lx
open Sl (strV Reads)

set_option maxRecDepth 100000 in
set_option maxHeartbeats 16000000 in
theorem expr_any (deep : Int) (l : List Tok) (en : Int) (hl : l.length ≤ 1000000) (fa : Nat → Nat → Res Expr) (hon : OnP l fa) (hfa : SubAll 111 deep l en fa) : SubAll 95 deep l en (fun i nd => (fa i nd).bind (signsP l en (plusP l) fa (l.length + 1))) := by
  intro i nd w B pb tv h hnd
  have hbA : Below w.heap.size w (w.alloc (.cells #[.int .i64 0, .int .i64 0, .int .i64 0, strV [], .slice none 0 0] 48)) := (Below.refl _ _).alloc (Nat.le_refl _) _
  have hA := h.below hbA (Nat.le_refl _)
  have hT := Lib.hid (hfa i nd _ B pb tv hA hnd)
  have BR := Blk.new w 48 #[.int .i64 0, .int .i64 0, .int .i64 0, strV [], .slice none 0 0]
  have hlt := h.lt
  show Calls _ _ _ _ (ParPost ((fa i nd).bind (signsP l en (plusP l) fa (l.length + 1))) w B pb tv l en)
  cases hR : fa i nd with
  | bad err p =>
    rw [hR] at hT
    clear hR
    go_enter Tryd.func95, Tryd.ntmps95
    go_wp2_with (go_at_call 111; refine hT.out.mono ?_; rintro e w1 ⟨hg1, rfl⟩)
    exact ⟨rfl, grown_grown (grown_of _ hbA) hg1, rfl⟩
  | ok e0 i0 nd0 =>
    have hi0 := (hon i nd e0 i0 nd0 h.i hR).2
    rw [hR] at hT
    show Calls _ _ _ _ (ParPost (signsP l en (plusP l) fa (l.length + 1) e0 i0 nd0) w B pb tv l en)
    obtain ⟨R, hRR⟩ : ∃ R, R = signsP l en (plusP l) fa (l.length + 1) e0 i0 nd0 := ⟨_, rfl⟩
    rw [← hRR]
    replace hRR := Lib.hid hRR.symm
    clear hR
    go_enter Tryd.func95, Tryd.ntmps95
    go_wp2_with (go_at_call 111; refine hT.out.mono ?_; rintro e w1 ⟨hg1, A0, cap0, rfl, hE1, h1, hn0⟩; unfold exprA)
    have hz1 := hg1.size
    simp at hz1
    have hgw : w.grownBy w1 (some pb) := grown_grown (grown_of _ hbA) hg1
    have BR1 : Blk w1 w.heap.size 48 #[.int .i64 0, .int .i64 0, .int .i64 0, strV [], .slice none 0 0] := (hg1.block w.heap.size (by simp) (by intro e; injection e with e; omega)).trans BR
    have hgn : w1.grownBy (w1.alloc (.cells #[.int .i64 e0.kind, .int .i64 e0.a, .int .i64 e0.b, strV e0.name, .slice A0 e0.kids.length cap0] 48)) (some pb) := grown_of _ ((Below.refl _ _).alloc (Nat.le_refl _) _)
    have h2 := h1.below (B' := w1.heap.size) (w' := w1.alloc (.cells #[.int .i64 e0.kind, .int .i64 e0.a, .int .i64 e0.b, strV e0.name, .slice A0 e0.kids.length cap0] 48)) ((Below.refl _ _).alloc (Nat.le_refl _) _) (Nat.le_refl _)
    replace hE1 := Lib.hid (hE1.keep (w' := w1.alloc (.cells #[.int .i64 e0.kind, .int .i64 e0.a, .int .i64 e0.b, strV e0.name, .slice A0 e0.kids.length cap0] 48)) (S' := fun k => w.heap.size + 1 ≤ k ∧ k ≠ w1.heap.size ∧ k < w1.heap.size + 1) (fun k hk => by
      have hk' : w.heap.size + 1 ≤ k ∧ k < w1.heap.size := by have := hk; unfold Nw at this; simpa using this
      exact ⟨((Below.refl w1.heap.size w1).alloc (Nat.le_refl _) _).block k hk'.2, by omega, by omega, by omega⟩))
    have hgw2 := grown_grown hgw hgn
    have B1 := BR1.alloc (.cells #[.int .i64 e0.kind, .int .i64 e0.a, .int .i64 e0.b, strV e0.name, .slice A0 e0.kids.length cap0] 48)
    clear hA hT BR hbA hg1 hgn
    go_loopg [6, 7] (l.length - i0) (fun q _ _ wr => ∃ (e : Expr) (A : Option Addr) (cap i nd f : Nat), q = l.length - i ∧ ParAt wr B pb tv l en i nd ∧ Blk wr w1.heap.size 48 #[.int .i64 e.kind, .int .i64 e.a, .int .i64 e.b, strV e.name, .slice A e.kids.length cap] ∧ Blk wr w.heap.size 48 #[.int .i64 0, .int .i64 0, .int .i64 0, strV [], .slice none 0 0] ∧ Hid (ExprOk wr (fun k => w.heap.size + 1 ≤ k ∧ k ≠ w1.heap.size ∧ k < wr.heap.size) e A) ∧ Hid (signsP l en (plusP l) fa f e i nd = R) ∧ l.length < f + i ∧ w.grownBy wr (some pb) ∧ nd ≤ 600)
    case atStart => exact ⟨e0, A0, cap0, i0, nd0, l.length + 1, rfl, h2, Blk.new _ _ _, B1, Lib.hid (by simpa using hE1.out), hRR, by omega, hgw2, hn0⟩
    case round =>
      clear h1 h2 BR1 hE1 hgw hgw2 B1 hRR hi0 hn0
      obtain ⟨e, A, cap, i, nd, f, hq, hP, hEb, hRb, hE, hR, hf, hgw, hn⟩ := hrel
      replace hq := Lib.hid hq
      have zw := hgw.size
      have zE := hEb.lt
      cases f with
      | zero => have := hP.i; omega
      | succ f =>
      have hsh := hR.out
      rw [signsP] at hsh
      cases hs : isP l i 3 [43] with
      | true =>
        have hil := isP_lt hs
        rw [show plusP l i = 6 from by unfold plusP; rw [hs]; rfl, if_neg (by decide)] at hsh
        have hI := Lib.hid (is_any l en i nd 3 [43] wr B pb tv hP)
        rw [hs] at hI
        clear hs
        go_wp2_with fail
        refine hI.out.mono ?_
        rintro e5 w5 ⟨rfl, hb5⟩
        clear hI
        have hP5' := hP.below hb5 (Nat.le_refl _)
        have hst := hP5'.step (j := i + 1) (by omega)
        have p1 : w5.cell? ⟨pb, 1, none⟩ = some (.int .i64 (i : Nat)) := Blk.cell hP5'.blk 1
        have pf1 : w5.frozen? ⟨pb, 1, none⟩ = false := Blk.frozen hP5'.blk 1
        have z5 := hP5'.lt
        have hP5 := hst.1
        have hg5 := grown_grown (grown_of (some pb) hb5) hst.2
        have hF := Lib.hid (hfa (i + 1) nd (w5.setCell ⟨pb, 1, none⟩ (.int .i64 ((i + 1 : Nat) : Int))) B pb tv hP5 hn)
        cases hk : fa (i + 1) nd with
        | bad err p =>
          rw [hk] at hsh hF
          replace hsh : Res.bad err p = R := hsh
          subst hsh
          clear hR hE hk
          go_wp2_with fail
          refine hF.out.mono ?_
          rintro e6 w6 ⟨hg6, rfl⟩
          go_wp2_with fail
          exact ⟨rfl, grown_grown (grown_grown hgw hg5) hg6, rfl⟩
        | ok e2 j nj =>
          have hjl := (hon (i + 1) nd e2 j nj (by omega) hk).1
          rw [hk] at hsh hF
          replace hsh : (nodeP l en (Expr.mk 6 0 0 [] [e, e2]) j nj).bind (signsP l en (plusP l) fa f) = R := hsh
          clear hR hk
          go_wp2_with fail
          refine hF.out.mono ?_
          rintro e6 w6 ⟨hg6, A2, cap2, rfl, hE2, hP6, hn6⟩
          unfold exprA
          have hg06 := grown_grown hg5 hg6
          have hz5 := hg5.size
          have hz6 := hg6.size
          have hEb6 : Blk w6 w1.heap.size 48 #[.int .i64 e.kind, .int .i64 e.a, .int .i64 e.b, strV e.name, .slice A e.kids.length cap] := (hg06.block w1.heap.size zE (by intro e; injection e with e; omega)).trans hEb
          have hEb7 := hEb6.alloc (.cells #[.int .i64 e2.kind, .int .i64 e2.a, .int .i64 e2.b, strV e2.name, .slice A2 e2.kids.length cap2] 48)
          obtain ⟨⟨s0, s1, s2, s3, s4⟩, t0, t1, t2, t3, t4⟩ := set_cells5 hEb7
          have hb67 : Below w6.heap.size w6 (w6.alloc (.cells #[.int .i64 e2.kind, .int .i64 e2.a, .int .i64 e2.b, strV e2.name, .slice A2 e2.kids.length cap2] 48)) := (Below.refl _ _).alloc (Nat.le_refl _) _
          have hbW : Below w6.heap.size w6 ((w6.alloc (.cells #[.int .i64 e2.kind, .int .i64 e2.a, .int .i64 e2.b, strV e2.name, .slice A2 e2.kids.length cap2] 48)).alloc (.cells #[.int .i64 e.kind, .int .i64 e.a, .int .i64 e.b, strV e.name, .slice A e.kids.length cap, .int .i64 e2.kind, .int .i64 e2.a, .int .i64 e2.b, strV e2.name, .slice A2 e2.kids.length cap2] 48)) := hb67.alloc (by simp) _
          have hgW : w6.grownBy ((w6.alloc (.cells #[.int .i64 e2.kind, .int .i64 e2.a, .int .i64 e2.b, strV e2.name, .slice A2 e2.kids.length cap2] 48)).alloc (.cells #[.int .i64 e.kind, .int .i64 e.a, .int .i64 e.b, strV e.name, .slice A e.kids.length cap, .int .i64 e2.kind, .int .i64 e2.a, .int .i64 e2.b, strV e2.name, .slice A2 e2.kids.length cap2] 48)) (some pb) := grown_of _ hbW
          have hPW := hP6.below (B' := w6.heap.size) hbW (Nat.le_refl _)
          have K1 := hE.out.keep (w' := (w6.alloc (.cells #[.int .i64 e2.kind, .int .i64 e2.a, .int .i64 e2.b, strV e2.name, .slice A2 e2.kids.length cap2] 48))) (S' := fun k => w.heap.size + 1 ≤ k ∧ k ≠ w1.heap.size ∧ k < w6.heap.size + 1) (fun k hk => ⟨(hb67.block k (by have := hk.2.2; omega)).trans (hg06.block k hk.2.2 (by intro e; injection e with e; have := hk.1; omega)), hk.1, hk.2.1, by have := hk.2.2; omega⟩)
          have K2 := hE2.keep (w' := (w6.alloc (.cells #[.int .i64 e2.kind, .int .i64 e2.a, .int .i64 e2.b, strV e2.name, .slice A2 e2.kids.length cap2] 48))) (S' := fun k => w.heap.size + 1 ≤ k ∧ k ≠ w1.heap.size ∧ k < w6.heap.size + 1) (fun k hk => ⟨hb67.block k hk.2, by have := hk.1; omega, by have := hk.1; omega, by have := hk.2; omega⟩)
          have O := Lib.hid (K1.two (cap := cap) (cap2 := cap2) K2 (k := 6) (x := 0) (y := 0) (by decide) (by decide) (S' := fun k => w.heap.size + 1 ≤ k ∧ k ≠ w1.heap.size ∧ k < w6.heap.size + 2) (fun k hk => ⟨by simp; exact hk.2.2, hk.1, hk.2.1, by have := hk.2.2; omega⟩) ⟨by simp; omega, by simp; omega, by simp⟩ 48)
          rw [show ((w6.alloc (.cells #[.int .i64 e2.kind, .int .i64 e2.a, .int .i64 e2.b, strV e2.name, .slice A2 e2.kids.length cap2] 48))).heap.size = w6.heap.size + 1 from by simp] at O
          clear hE K1 K2 hE2
          replace hsh := Lib.hid hsh
          go_wp2_with fail
          by_cases hn7 : 600 < nj + 1
          · have hsh := hsh.out
            unfold nodeP at hsh
            rw [if_pos hn7] at hsh
            subst hsh
            refine (node_no l en j nj 6 0 0 [] (some ⟨w6.heap.size + 1, 0, none⟩) 2 2 ((w6.alloc (.cells #[.int .i64 e2.kind, .int .i64 e2.a, .int .i64 e2.b, strV e2.name, .slice A2 e2.kids.length cap2] 48)).alloc (.cells #[.int .i64 e.kind, .int .i64 e.a, .int .i64 e.b, strV e.name, .slice A e.kids.length cap, .int .i64 e2.kind, .int .i64 e2.a, .int .i64 e2.b, strV e2.name, .slice A2 e2.kids.length cap2] 48)) B pb tv hPW hn7 hn6).mono ?_
            rintro e8 w8 ⟨rfl, hg8⟩
            go_wp2_with fail
            exact ⟨rfl, grown_grown (grown_grown (grown_grown hgw hg06) hgW) hg8, rfl⟩
          · have hsh := hsh.out
            unfold nodeP at hsh
            rw [if_neg hn7] at hsh
            replace hsh : signsP l en (plusP l) fa f (Expr.mk 6 0 0 [] [e, e2]) j (nj + 1) = R := hsh
            refine (node_yes l en j nj 6 0 0 [] (some ⟨w6.heap.size + 1, 0, none⟩) 2 2 ((w6.alloc (.cells #[.int .i64 e2.kind, .int .i64 e2.a, .int .i64 e2.b, strV e2.name, .slice A2 e2.kids.length cap2] 48)).alloc (.cells #[.int .i64 e.kind, .int .i64 e.a, .int .i64 e.b, strV e.name, .slice A e.kids.length cap, .int .i64 e2.kind, .int .i64 e2.a, .int .i64 e2.b, strV e2.name, .slice A2 e2.kids.length cap2] 48)) B pb tv hPW hn7).mono ?_
            rintro e8 w8 ⟨rfl, hg8, hP8⟩
            have hEb8 := (hg8.block w1.heap.size (by simp; omega) (by intro e; injection e with e; omega)).trans (hEb7.alloc (.cells #[.int .i64 e.kind, .int .i64 e.a, .int .i64 e.b, strV e.name, .slice A e.kids.length cap, .int .i64 e2.kind, .int .i64 e2.a, .int .i64 e2.b, strV e2.name, .slice A2 e2.kids.length cap2] 48))
            obtain ⟨⟨u0, u1, u2, u3, u4⟩, v0, v1, v2, v3, v4⟩ := set_cells5 hEb8
            go_wp2_with fail
            have hg28 := grown_grown hg06 (grown_grown hgW hg8)
            have hR8 : Blk w8 w.heap.size 48 #[.int .i64 0, .int .i64 0, .int .i64 0, strV [], .slice none 0 0] := (hg28.block w.heap.size (by omega) (by intro e; injection e with e; omega)).trans hRb
            have hz8 := hg8.size
            simp at hz8
            obtain ⟨r1, r2, r3, r4, r5⟩ := rnd_ok (w := w) (cap := 2) hlt hz1 (grown_grown hgw hg28) hP8 (O.out.keep (w' := w8) (S' := fun k => w.heap.size + 1 ≤ k ∧ k ≠ w1.heap.size ∧ k < w8.heap.size) (fun k hk => ⟨hg8.block k (by simp; exact hk.2.2) (by intro e; injection e with e; have := hk.1; omega), hk.1, hk.2.1, by have := hk.2.2; omega⟩)) hEb8 rfl hR8 rfl
            go_roundg (l.length - j)
            exact ⟨Expr.mk 6 0 0 [] [e, e2], some ⟨w6.heap.size + 1, 0, none⟩, 2, j, nj + 1, f, rfl, r1, r2, r3, Lib.hid r4, Lib.hid hsh, by omega, r5, by omega⟩
            have := hP8.i
            rw [hq.out]
            omega
      | false =>
        have hI := Lib.hid (is_any l en i nd 3 [43] wr B pb tv hP)
        rw [hs] at hI
        cases hs2 : isP l i 3 [45] with
        | true =>
          have hil := isP_lt hs2
          rw [show plusP l i = 7 from by unfold plusP; rw [hs, hs2]; rfl, if_neg (by decide)] at hsh
          clear hs
          go_wp2_with fail
          refine hI.out.mono ?_
          rintro e4 w4 ⟨rfl, hb4⟩
          clear hI
          have hP4 := hP.below hb4 (Nat.le_refl _)
          have hI := Lib.hid (is_any l en i nd 3 [45] w4 B pb tv hP4)
          rw [hs2] at hI
          clear hs2
          go_wp2_with fail
          refine hI.out.mono ?_
          rintro e5 w5 ⟨rfl, hb5⟩
          clear hI
          have hP5' := hP4.below hb5 (Nat.le_refl _)
          have hst := hP5'.step (j := i + 1) (by omega)
          have p1 : w5.cell? ⟨pb, 1, none⟩ = some (.int .i64 (i : Nat)) := Blk.cell hP5'.blk 1
          have pf1 : w5.frozen? ⟨pb, 1, none⟩ = false := Blk.frozen hP5'.blk 1
          have z5 := hP5'.lt
          have hP5 := hst.1
          have hg5 := grown_grown (grown_of (some pb) (hb4.trans (hb5.mono hb4.size))) hst.2
          have hF := Lib.hid (hfa (i + 1) nd (w5.setCell ⟨pb, 1, none⟩ (.int .i64 ((i + 1 : Nat) : Int))) B pb tv hP5 hn)
          cases hk : fa (i + 1) nd with
          | bad err p =>
            rw [hk] at hsh hF
            replace hsh : Res.bad err p = R := hsh
            subst hsh
            clear hR hE hk
            go_wp2_with fail
            refine hF.out.mono ?_
            rintro e6 w6 ⟨hg6, rfl⟩
            go_wp2_with fail
            exact ⟨rfl, grown_grown (grown_grown hgw hg5) hg6, rfl⟩
          | ok e2 j nj =>
            have hjl := (hon (i + 1) nd e2 j nj (by omega) hk).1
            rw [hk] at hsh hF
            replace hsh : (nodeP l en (Expr.mk 7 0 0 [] [e, e2]) j nj).bind (signsP l en (plusP l) fa f) = R := hsh
            clear hR hk
            go_wp2_with fail
            refine hF.out.mono ?_
            rintro e6 w6 ⟨hg6, A2, cap2, rfl, hE2, hP6, hn6⟩
            unfold exprA
            have hg06 := grown_grown hg5 hg6
            have hz5 := hg5.size
            have hz6 := hg6.size
            have hEb6 : Blk w6 w1.heap.size 48 #[.int .i64 e.kind, .int .i64 e.a, .int .i64 e.b, strV e.name, .slice A e.kids.length cap] := (hg06.block w1.heap.size zE (by intro e; injection e with e; omega)).trans hEb
            have hEb7 := hEb6.alloc (.cells #[.int .i64 e2.kind, .int .i64 e2.a, .int .i64 e2.b, strV e2.name, .slice A2 e2.kids.length cap2] 48)
            obtain ⟨⟨s0, s1, s2, s3, s4⟩, t0, t1, t2, t3, t4⟩ := set_cells5 hEb7
            have hb67 : Below w6.heap.size w6 (w6.alloc (.cells #[.int .i64 e2.kind, .int .i64 e2.a, .int .i64 e2.b, strV e2.name, .slice A2 e2.kids.length cap2] 48)) := (Below.refl _ _).alloc (Nat.le_refl _) _
            have hbW : Below w6.heap.size w6 ((w6.alloc (.cells #[.int .i64 e2.kind, .int .i64 e2.a, .int .i64 e2.b, strV e2.name, .slice A2 e2.kids.length cap2] 48)).alloc (.cells #[.int .i64 e.kind, .int .i64 e.a, .int .i64 e.b, strV e.name, .slice A e.kids.length cap, .int .i64 e2.kind, .int .i64 e2.a, .int .i64 e2.b, strV e2.name, .slice A2 e2.kids.length cap2] 48)) := hb67.alloc (by simp) _
            have hgW : w6.grownBy ((w6.alloc (.cells #[.int .i64 e2.kind, .int .i64 e2.a, .int .i64 e2.b, strV e2.name, .slice A2 e2.kids.length cap2] 48)).alloc (.cells #[.int .i64 e.kind, .int .i64 e.a, .int .i64 e.b, strV e.name, .slice A e.kids.length cap, .int .i64 e2.kind, .int .i64 e2.a, .int .i64 e2.b, strV e2.name, .slice A2 e2.kids.length cap2] 48)) (some pb) := grown_of _ hbW
            have hPW := hP6.below (B' := w6.heap.size) hbW (Nat.le_refl _)
            have K1 := hE.out.keep (w' := (w6.alloc (.cells #[.int .i64 e2.kind, .int .i64 e2.a, .int .i64 e2.b, strV e2.name, .slice A2 e2.kids.length cap2] 48))) (S' := fun k => w.heap.size + 1 ≤ k ∧ k ≠ w1.heap.size ∧ k < w6.heap.size + 1) (fun k hk => ⟨(hb67.block k (by have := hk.2.2; omega)).trans (hg06.block k hk.2.2 (by intro e; injection e with e; have := hk.1; omega)), hk.1, hk.2.1, by have := hk.2.2; omega⟩)
            have K2 := hE2.keep (w' := (w6.alloc (.cells #[.int .i64 e2.kind, .int .i64 e2.a, .int .i64 e2.b, strV e2.name, .slice A2 e2.kids.length cap2] 48))) (S' := fun k => w.heap.size + 1 ≤ k ∧ k ≠ w1.heap.size ∧ k < w6.heap.size + 1) (fun k hk => ⟨hb67.block k hk.2, by have := hk.1; omega, by have := hk.1; omega, by have := hk.2; omega⟩)
            have O := Lib.hid (K1.two (cap := cap) (cap2 := cap2) K2 (k := 7) (x := 0) (y := 0) (by decide) (by decide) (S' := fun k => w.heap.size + 1 ≤ k ∧ k ≠ w1.heap.size ∧ k < w6.heap.size + 2) (fun k hk => ⟨by simp; exact hk.2.2, hk.1, hk.2.1, by have := hk.2.2; omega⟩) ⟨by simp; omega, by simp; omega, by simp⟩ 48)
            rw [show ((w6.alloc (.cells #[.int .i64 e2.kind, .int .i64 e2.a, .int .i64 e2.b, strV e2.name, .slice A2 e2.kids.length cap2] 48))).heap.size = w6.heap.size + 1 from by simp] at O
            clear hE K1 K2 hE2
            replace hsh := Lib.hid hsh
            go_wp2_with fail
            by_cases hn7 : 600 < nj + 1
            · have hsh := hsh.out
              unfold nodeP at hsh
              rw [if_pos hn7] at hsh
              subst hsh
              refine (node_no l en j nj 7 0 0 [] (some ⟨w6.heap.size + 1, 0, none⟩) 2 2 ((w6.alloc (.cells #[.int .i64 e2.kind, .int .i64 e2.a, .int .i64 e2.b, strV e2.name, .slice A2 e2.kids.length cap2] 48)).alloc (.cells #[.int .i64 e.kind, .int .i64 e.a, .int .i64 e.b, strV e.name, .slice A e.kids.length cap, .int .i64 e2.kind, .int .i64 e2.a, .int .i64 e2.b, strV e2.name, .slice A2 e2.kids.length cap2] 48)) B pb tv hPW hn7 hn6).mono ?_
              rintro e8 w8 ⟨rfl, hg8⟩
              go_wp2_with fail
              exact ⟨rfl, grown_grown (grown_grown (grown_grown hgw hg06) hgW) hg8, rfl⟩
            · have hsh := hsh.out
              unfold nodeP at hsh
              rw [if_neg hn7] at hsh
              replace hsh : signsP l en (plusP l) fa f (Expr.mk 7 0 0 [] [e, e2]) j (nj + 1) = R := hsh
              refine (node_yes l en j nj 7 0 0 [] (some ⟨w6.heap.size + 1, 0, none⟩) 2 2 ((w6.alloc (.cells #[.int .i64 e2.kind, .int .i64 e2.a, .int .i64 e2.b, strV e2.name, .slice A2 e2.kids.length cap2] 48)).alloc (.cells #[.int .i64 e.kind, .int .i64 e.a, .int .i64 e.b, strV e.name, .slice A e.kids.length cap, .int .i64 e2.kind, .int .i64 e2.a, .int .i64 e2.b, strV e2.name, .slice A2 e2.kids.length cap2] 48)) B pb tv hPW hn7).mono ?_
              rintro e8 w8 ⟨rfl, hg8, hP8⟩
              have hEb8 := (hg8.block w1.heap.size (by simp; omega) (by intro e; injection e with e; omega)).trans (hEb7.alloc (.cells #[.int .i64 e.kind, .int .i64 e.a, .int .i64 e.b, strV e.name, .slice A e.kids.length cap, .int .i64 e2.kind, .int .i64 e2.a, .int .i64 e2.b, strV e2.name, .slice A2 e2.kids.length cap2] 48))
              obtain ⟨⟨u0, u1, u2, u3, u4⟩, v0, v1, v2, v3, v4⟩ := set_cells5 hEb8
              go_wp2_with fail
              have hg28 := grown_grown hg06 (grown_grown hgW hg8)
              have hR8 : Blk w8 w.heap.size 48 #[.int .i64 0, .int .i64 0, .int .i64 0, strV [], .slice none 0 0] := (hg28.block w.heap.size (by omega) (by intro e; injection e with e; omega)).trans hRb
              have hz8 := hg8.size
              simp at hz8
              obtain ⟨r1, r2, r3, r4, r5⟩ := rnd_ok (w := w) (cap := 2) hlt hz1 (grown_grown hgw hg28) hP8 (O.out.keep (w' := w8) (S' := fun k => w.heap.size + 1 ≤ k ∧ k ≠ w1.heap.size ∧ k < w8.heap.size) (fun k hk => ⟨hg8.block k (by simp; exact hk.2.2) (by intro e; injection e with e; have := hk.1; omega), hk.1, hk.2.1, by have := hk.2.2; omega⟩)) hEb8 rfl hR8 rfl
              go_roundg (l.length - j)
              exact ⟨Expr.mk 7 0 0 [] [e, e2], some ⟨w6.heap.size + 1, 0, none⟩, 2, j, nj + 1, f, rfl, r1, r2, r3, Lib.hid r4, Lib.hid hsh, by omega, r5, by omega⟩
              have := hP8.i
              rw [hq.out]
              omega
        | false =>
          rw [show plusP l i = 0 from by unfold plusP; rw [hs, hs2]; rfl, if_pos rfl] at hsh
          subst hsh
          clear hs
          go_wp2_with fail
          refine hI.out.mono ?_
          rintro e4 w4 ⟨rfl, hb4⟩
          clear hI
          have hP4 := hP.below hb4 (Nat.le_refl _)
          have hI := Lib.hid (is_any l en i nd 3 [45] w4 B pb tv hP4)
          rw [hs2] at hI
          clear hs2
          go_wp2_with fail
          refine hI.out.mono ?_
          rintro e5 w5 ⟨rfl, hb5'⟩
          clear hI
          have hb5 : Below wr.heap.size wr w5 := hb4.trans (hb5'.mono hb4.size)
          obtain ⟨⟨s0, s1, s2, s3, s4⟩, _⟩ := set_cells5 (hEb.below hb5 zE)
          obtain ⟨⟨r0, r1, r2, r3, r4⟩, q0, q1, q2, q3, q4⟩ := set_cells5 (hRb.below hb5 (by omega))
          go_wp2_with fail
          have hb5g := hb5.size
          have E := (((((hRb.below hb5 (by omega)).set 0 (.int .i64 e.kind)).set 1 (.int .i64 e.a)).set 2 (.int .i64 e.b)).set 3 (strV e.name)).set 4 (.slice A e.kids.length cap)
          obtain ⟨⟨e0', e1', e2', e3', e4'⟩, _⟩ := set_cells5 (a0 := .int .i64 e.kind) (a1 := .int .i64 e.a) (a2 := .int .i64 e.b) (a3 := strV e.name) (a4 := .slice A e.kids.length cap) E
          exact bodyPost_ret (v := exprA e A cap) (by simp [results, Tryd.results95, e0', e1', e2', e3', e4', go_sem, exprA]) rfl (fin_ok hlt (hP.below hb5 (Nat.le_refl _)) (grown_below hgw hb5) (hE.out.keep (S' := fun k => w.heap.size + 1 ≤ k ∧ k < w5.heap.size) (fun k hk => ⟨hb5.block k hk.2.2, hk.1, by have := hk.2.2; omega⟩)) (fun k hk => hk) hn _ _ _ _ _)

end Ru
end Go.Proofs.YtbadplbdgpbdaaaDoor

namespace Go.Proofs.YtbadplbdgpbdaaaDoor
open Go.RowKit
namespace Ru
open Lx
open Sl (strV Reads)

def daysL : List (List UInt8) := [[109, 111, 110], [116, 117, 101], [119, 101, 100], [116, 104, 117], [102, 114, 105], [115, 97, 116], [115, 117, 110]]
def daysA : Array Value := #[strV [109, 111, 110], strV [116, 117, 101], strV [119, 101, 100], strV [116, 104, 117], strV [102, 114, 105], strV [115, 97, 116], strV [115, 117, 110]]
theorem days_get (i : Nat) : daysA[i]? = (daysL[i]?).map strV := by
  rcases i with _ | _ | _ | _ | _ | _ | _ | i <;> first | rfl | simp [daysA, daysL]
theorem days_row {W : World} {g B : Nat} {t : TypeId} (h : Blk W g t daysA) (hB : g < B) : Sl.StrsV W B (.slice (some ⟨g, 0, none⟩) 7 7) daysL :=
  ⟨some ⟨g, 0, none⟩, 7, rfl, by decide, fun i s hs => ⟨g, 0, rfl, hB, by show W.cell? ⟨g, 0 + i, none⟩ = _; rw [Nat.zero_add, h.cell, days_get, hs]; rfl⟩⟩
set_option maxHeartbeats 400000 in
theorem days_any (w : World) : Calls Tryd.prog 129 #[] w fun e w' => ∃ t, e = .returned (.slice (some ⟨w.heap.size, 0, none⟩) 7 7) ∧ w' = w.alloc (.cells daysA t) := by
  go_enter Tryd.func129, Tryd.ntmps129
  go_wp2
  go_ret
  exact ⟨_, rfl, rfl⟩
theorem days_index (s : List UInt8) (w : World) (g : Nat) (t : TypeId) (h : Blk w g t daysA) : Calls Tryd.prog 113 #[.slice (some ⟨g, 0, none⟩) 7 7, strV s] w fun e w' => e = .returned (.int .i64 (if dayT s < 7 then (dayT s : Int) else -1)) ∧ w = w' := by
  have hp : Sl.place daysL s = (if dayT s < 7 then (dayT s : Int) else -1) := by
    have hd : dayT s = daysL.findIdx fun x => s == x := rfl
    rw [hd]
    by_cases hlt : (daysL.findIdx fun x => s == x) < 7
    · rw [if_pos hlt]
      refine Sl.place_at ?_ ?_
      · have h1 := List.findIdx_getElem (xs := daysL) (p := fun x => s == x) (w := hlt)
        rw [List.getElem?_eq_getElem hlt]
        exact congrArg some (by simpa using h1 : s = _).symm
      · intro i hi he
        have := List.not_of_lt_findIdx (xs := daysL) (p := fun x => s == x) hi
        obtain ⟨hi7, he⟩ := List.getElem?_eq_some_iff.1 he
        rw [he] at this
        simp at this
    · rw [if_neg hlt]
      refine Sl.place_none ?_
      intro i hi he
      obtain ⟨hi7, he⟩ := List.getElem?_eq_some_iff.1 he
      have := List.findIdx_lt_length_of_exists (xs := daysL) (p := fun x => s == x) ⟨s, by rw [← he]; exact List.getElem_mem _, by simp⟩
      exact hlt this
  rw [← hp]
  exact Sl.IndexS_any _ _ _ w (g + 1) (days_row h (by omega))

theorem or_days : ∀ set : Fin 128, ∀ d : Fin 7, bits BinOp.or IntKind.i64 (set.val : Int) (wrap64 (2 ^ d.val)) = ((set.val ||| 2 ^ d.val : Nat) : Int) ∧ (set.val ||| 2 ^ d.val) < 128 := by decide +kernel
theorem or_day {set d : Nat} (hs : set < 128) (hd : d < 7) : bits BinOp.or IntKind.i64 (set : Int) (wrap64 (2 ^ d)) = ((set ||| 2 ^ d : Nat) : Int) ∧ (set ||| 2 ^ d) < 128 := or_days ⟨set, hs⟩ ⟨d, hd⟩
/-- behind the days: the colon, and what they are of -/
def restW (l : List Tok) (en : Int) (fa : Nat → Nat → Res Expr) (set : Nat) (j nd : Nat) : Res Expr :=
  (mustP l en [58] j nd).bind fun _ j nd => (fa j nd).bind fun e j nd => nodeP l en (.mk 4 (set : Nat) 0 [] [e]) j nd

set_option maxRecDepth 100000 in
set_option maxHeartbeats 16000000 in
theorem weekly_any (deep : Int) (hd0 : 0 ≤ deep) (hd1 : deep ≤ 1000) (l : List Tok) (en : Int) (hl : l.length ≤ 1000000) (fa : Nat → Nat → Res Expr) (hfa : SubAll 119 (deep + 1) l en fa) : SubAll 127 deep l en (weeklyP l en fa) := by
  intro i nd w B pb tv h hnd
  have hbA : Below w.heap.size w (w.alloc (.cells #[.int .i64 0, .int .i64 0, .int .i64 0, strV [], .slice none 0 0] 48)) := (Below.refl _ _).alloc (Nat.le_refl _) _
  have hA := h.below hbA (Nat.le_refl _)
  have hgA : w.grownBy (w.alloc (.cells #[.int .i64 0, .int .i64 0, .int .i64 0, strV [], .slice none 0 0] 48)) (some pb) := grown_of _ hbA
  have BR := Blk.new w 48 #[.int .i64 0, .int .i64 0, .int .i64 0, strV [], .slice none 0 0]
  have hlt := h.lt
  obtain ⟨R, hRR⟩ : ∃ R, R = weeklyP l en fa i nd := ⟨_, rfl⟩
  rw [← hRR]
  replace hRR : Hid ((weekP l en (l.length + 1) 0 i nd).bind (restW l en fa) = R) := Lib.hid hRR.symm
  go_enter Tryd.func127, Tryd.ntmps127
  go_wp2
  go_loopg [5, 6, 7] (l.length - i) (fun q a _ _ wr => ∃ (set i f : Nat), q = l.length - i ∧ a = .int .i64 set ∧ set < 128 ∧ ParAt wr B pb tv l en i nd ∧ Blk wr w.heap.size 48 #[.int .i64 0, .int .i64 0, .int .i64 0, strV [], .slice none 0 0] ∧ Hid ((weekP l en f set i nd).bind (restW l en fa) = R) ∧ l.length < f + i ∧ w.grownBy wr (some pb))
  case atStart => exact ⟨0, i, l.length + 1, rfl, rfl, by omega, hA, BR, hRR, by omega, hgA⟩
  case round =>
    clear hA BR hbA hgA hRR
    obtain ⟨set, i, f, hq, rfl, hset, hP, hRb, hR, hf, hgw⟩ := hrel
    replace hq := Lib.hid hq
    have zw := hgw.size
    have zR := hRb.lt
    cases f with
    | zero => have := hP.i; omega
    | succ f =>
    have hsh := hR.out
    rw [weekP] at hsh
    have p1 : wr.cell? ⟨pb, 1, none⟩ = some (.int .i64 (i : Nat)) := Blk.cell hP.blk 1
    have zp := hP.lt
    cases hk : kindP l i 2 with
    | false =>
      rw [take_bad hk] at hsh
      replace hsh : Res.bad 2 (hereP l en i) = R := hsh
      subst hsh
      clear hR
      go_wp2_with fail
      refine (days_any wr).mono ?_
      rintro e1 w1 ⟨T, rfl, rfl⟩
      have hPW := hP.below (B' := wr.heap.size) (w' := wr.alloc (.cells daysA T)) ((Below.refl _ _).alloc (Nat.le_refl _) _) (Nat.le_refl _)
      have hgW : wr.grownBy (wr.alloc (.cells daysA T)) (some pb) := grown_of _ ((Below.refl _ _).alloc (Nat.le_refl _) _)
      go_wp2_with fail
      refine (take_no l en i nd 2 _ B pb tv hPW hk).mono ?_
      rintro e2 w2 ⟨rfl, hg2⟩
      go_wp2_with fail
      exact ⟨rfl, grown_grown (grown_grown hgw hgW) hg2, rfl⟩
    | true =>
      obtain ⟨t, ht, ht1⟩ := kind_tok hk
      have hil : i < l.length := (List.getElem?_eq_some_iff.1 ht).1
      rw [take_good ht ht1] at hsh
      replace hsh : ((if dayT t.2.2.2 < 7 then (if isP l (i + 1) 3 [44] = true then weekP l en f (set ||| 2 ^ dayT t.2.2.2) (i + 1 + 1) nd else .ok (set ||| 2 ^ dayT t.2.2.2) (i + 1) nd) else failP l en 2 i : Res Nat)).bind (restW l en fa) = R := hsh
      clear hR hk
      go_wp2_with fail
      refine (days_any wr).mono ?_
      rintro e1 w1 ⟨T, rfl, rfl⟩
      have hPW := hP.below (B' := wr.heap.size) (w' := wr.alloc (.cells daysA T)) ((Below.refl _ _).alloc (Nat.le_refl _) _) (Nat.le_refl _)
      have hgW : wr.grownBy (wr.alloc (.cells daysA T)) (some pb) := grown_of _ ((Below.refl _ _).alloc (Nat.le_refl _) _)
      have BD := Blk.new wr T daysA
      go_wp2_with fail
      refine (take_yes l en i nd 2 t _ B pb tv hPW ht ht1 hl).mono ?_
      rintro e2 w2 ⟨rfl, hg2, hP2⟩
      unfold tokA
      have BD2 : Blk w2 wr.heap.size T daysA := (hg2.block wr.heap.size (by simp) (by intro e; injection e with e; omega)).trans BD
      have hg02 := grown_grown hgW hg2
      have hgw2 := grown_grown hgw hg02
      go_wp2_with fail
      refine (days_index t.2.2.2 w2 wr.heap.size T BD2).mono ?_
      rintro e3 w3 ⟨rfl, rfl⟩
      have q1 : w2.cell? ⟨pb, 1, none⟩ = some (.int .i64 (i + 1 : Nat)) := Blk.cell hP2.blk 1
      have qf1 : w2.frozen? ⟨pb, 1, none⟩ = false := Blk.frozen hP2.blk 1
      have z2 := hP2.lt
      by_cases hd : dayT t.2.2.2 < 7
      · rw [if_pos hd]
        rw [if_pos hd] at hsh
        obtain ⟨d, hdd⟩ : ∃ d, d = dayT t.2.2.2 := ⟨_, rfl⟩
        rw [← hdd] at hsh hd ⊢
        clear hdd
        obtain ⟨hor, hs2⟩ := or_day hset hd
        obtain ⟨set2, hset2⟩ : ∃ x, x = set ||| 2 ^ d := ⟨_, rfl⟩
        rw [← hset2] at hsh hor hs2
        clear hset2
        replace hsh := Lib.hid hsh
        cases hs : isP l (i + 1) 3 [44] with
        | true =>
          have hil2 := isP_lt hs
          have hsh := hsh.out
          rw [hs, if_pos rfl] at hsh
          have hE1 := Lib.hid (eat_yes l en (i + 1) nd 3 [44] w2 B pb tv hP2 hs hl)
          clear hs
          go_wp2_with fail
          refine hE1.out.mono ?_
          rintro e5 w5 ⟨rfl, hg5, hP5⟩
          have hg05 := grown_grown hg02 hg5
          have hR5 : Blk w5 w.heap.size 48 #[.int .i64 0, .int .i64 0, .int .i64 0, strV [], .slice none 0 0] := (hg05.block w.heap.size zR (by intro e; injection e with e; omega)).trans hRb
          go_wp2_with fail
          go_roundg (l.length - (i + 2))
          exact ⟨set2, i + 2, f, rfl, rfl, hs2, hP5, hR5, Lib.hid hsh, by omega, grown_grown hgw hg05⟩
          rw [hq.out]
          omega
        | false =>
          have hsh := hsh.out
          rw [hs, if_neg (by decide)] at hsh
          replace hsh : restW l en fa set2 (i + 1) nd = R := hsh
          have hE1 := Lib.hid (eat_no l en (i + 1) nd 3 [44] w2 B pb tv hP2 hs)
          clear hs
          go_wp2_with fail
          refine hE1.out.mono ?_
          rintro e5 w5 ⟨rfl, hb5⟩
          have hP5 := hP2.below hb5 (Nat.le_refl _)
          have hgw5 := grown_below hgw2 hb5
          go_wp2_with fail
          have z02 := hg02.size
          have z25 := hb5.size
          have hz5 : w.heap.size + 1 ≤ w5.heap.size := by omega
          have hRbs : Hid (∀ W, w5.grownBy W (some pb) → Blk W w.heap.size 48 #[.int .i64 0, .int .i64 0, .int .i64 0, strV [], .slice none 0 0]) := Lib.hid fun W hW => (hW.block w.heap.size (by omega) (by intro e; injection e with e; omega)).trans ((hb5.block w.heap.size (by omega)).trans ((hg02.block w.heap.size zR (by intro e; injection e with e; omega)).trans hRb))
          replace hsh := Lib.hid hsh
          unfold restW at hsh
          clear hE1 hP2 BD BD2 hPW hP hRb
          cases hm : isP l (i + 1) 3 [58] with
          | false =>
            have hsh := hsh.out
            unfold mustP at hsh
            rw [hm, if_neg (by decide)] at hsh
            replace hsh : Res.bad 2 (hereP l en (i + 1)) = R := hsh
            subst hsh
            refine (must_no l en (i + 1) nd [58] w5 B pb tv hP5 hm).mono ?_
            rintro e6 w6 ⟨rfl, hg6⟩
            go_wp2_with fail
            exact ⟨rfl, grown_grown hgw5 hg6, rfl⟩
          | true =>
            have hil6 := isP_lt hm
            have hsh := hsh.out
            unfold mustP at hsh
            rw [hm, if_pos rfl] at hsh
            refine (must_yes l en (i + 1) nd [58] w5 B pb tv hP5 hm hl).mono ?_
            rintro e6 w6 ⟨rfl, hg6, hP6⟩
            clear hm
            have hgw6 := grown_grown hgw5 hg6
            have hF := Lib.hid (hfa ((i + 1) + 1) nd w6 B pb tv hP6 hnd)
            cases hk : fa ((i + 1) + 1) nd with
            | bad err p =>
              rw [hk] at hF
              replace hsh : (fa ((i + 1) + 1) nd).bind (fun e j nd => nodeP l en (.mk 4 (set2 : Nat) 0 [] [e]) j nd) = R := hsh
              rw [hk] at hsh
              replace hsh : Res.bad err p = R := hsh
              subst hsh
              clear hk
              go_wp2_with fail
              refine hF.out.mono ?_
              rintro e7 w7 ⟨hg7, rfl⟩
              go_wp2_with fail
              exact ⟨rfl, grown_grown hgw6 hg7, rfl⟩
            | ok e j nj =>
              rw [hk] at hF
              replace hsh : (fa ((i + 1) + 1) nd).bind (fun e j nd => nodeP l en (.mk 4 (set2 : Nat) 0 [] [e]) j nd) = R := hsh
              rw [hk] at hsh
              replace hsh : nodeP l en (.mk 4 (set2 : Nat) 0 [] [e]) j nj = R := hsh
              clear hk
              replace hsh := Lib.hid hsh
              go_wp2_with fail
              refine hF.out.mono ?_
              rintro e7 w7 ⟨hg7, A, cap, rfl, hE, hP7, hn7⟩
              unfold exprA
              have hgw7 := grown_grown hgw6 hg7
              have hz6 := hg6.size
              have hz7 := hg7.size
              have hbW : Below w7.heap.size w7 (w7.alloc (.cells #[.int .i64 e.kind, .int .i64 e.a, .int .i64 e.b, strV e.name, .slice A e.kids.length cap] 48)) := (Below.refl _ _).alloc (Nat.le_refl _) _
              have hgW : w7.grownBy (w7.alloc (.cells #[.int .i64 e.kind, .int .i64 e.a, .int .i64 e.b, strV e.name, .slice A e.kids.length cap] 48)) (some pb) := grown_of _ hbW
              have hPW := hP7.below (B' := w7.heap.size) hbW (Nat.le_refl _)
              have hR7 : Blk (w7.alloc (.cells #[.int .i64 e.kind, .int .i64 e.a, .int .i64 e.b, strV e.name, .slice A e.kids.length cap] 48)) w.heap.size 48 #[.int .i64 0, .int .i64 0, .int .i64 0, strV [], .slice none 0 0] := Blk.alloc (hRbs.out w7 (grown_grown hg6 hg7)) _
              have O := Lib.hid (hE.one (cap := cap) (k := 4) (x := (set2 : Nat)) (y := 0) (by decide) (by decide) (S' := fun k => w.heap.size + 1 ≤ k ∧ k < w7.heap.size + 1) (fun k hk => ⟨hk.2, by have := hk.1; omega, by have := hk.2; omega⟩) ⟨by omega, by omega⟩ 48)
              clear hE
              go_wp2_with fail
              by_cases hn8 : 600 < nj + 1
              · have hsh := hsh.out
                unfold nodeP at hsh
                rw [if_pos hn8] at hsh
                subst hsh
                refine (node_no l en j nj 4 (set2 : Nat) 0 [] (some ⟨w7.heap.size, 0, none⟩) 1 1 (w7.alloc (.cells #[.int .i64 e.kind, .int .i64 e.a, .int .i64 e.b, strV e.name, .slice A e.kids.length cap] 48)) B pb tv hPW hn8 hn7).mono ?_
                rintro e8 w8 ⟨rfl, hg8⟩
                go_wp2_with fail
                exact ⟨rfl, grown_grown (grown_grown hgw7 hgW) hg8, rfl⟩
              · have hsh := hsh.out
                unfold nodeP at hsh
                rw [if_neg hn8] at hsh
                replace hsh : Res.ok (Expr.mk 4 (set2 : Nat) 0 [] [e]) j (nj + 1) = R := hsh
                subst hsh
                refine (node_yes l en j nj 4 (set2 : Nat) 0 [] (some ⟨w7.heap.size, 0, none⟩) 1 1 (w7.alloc (.cells #[.int .i64 e.kind, .int .i64 e.a, .int .i64 e.b, strV e.name, .slice A e.kids.length cap] 48)) B pb tv hPW hn8).mono ?_
                rintro e8 w8 ⟨rfl, hg8, hP8⟩
                have hR8 : Blk w8 w.heap.size 48 #[.int .i64 0, .int .i64 0, .int .i64 0, strV [], .slice none 0 0] := (hg8.block w.heap.size (by simp; omega) (by intro e; injection e with e; omega)).trans hR7
                obtain ⟨⟨u0, u1, u2, u3, u4⟩, v0, v1, v2, v3, v4⟩ := set_cells5 hR8
                have hz8 := hg8.size
                simp at hz8
                go_wp2_with fail
                have E := ((((hR8.set 0 (.int .i64 4)).set 1 (.int .i64 (set2 : Nat))).set 2 (.int .i64 0)).set 3 (strV [])).set 4 (.slice (some ⟨w7.heap.size, 0, none⟩) 1 1)
                obtain ⟨⟨e0', e1', e2', e3', e4'⟩, _⟩ := set_cells5 (a0 := .int .i64 4) (a1 := .int .i64 (set2 : Nat)) (a2 := .int .i64 0) (a3 := strV []) (a4 := .slice (some ⟨w7.heap.size, 0, none⟩) 1 1) E
                exact bodyPost_ret (v := exprA (.mk 4 (set2 : Nat) 0 [] [e]) (some ⟨w7.heap.size, 0, none⟩) 1) (by simp [results, Tryd.results127, e0', e1', e2', e3', e4', go_sem, exprA, Expr.kind, Expr.a, Expr.b, Expr.name, Expr.kids]) rfl (fin_ok hlt hP8 (grown_grown (grown_grown hgw7 hgW) hg8) (O.out.keep (S' := fun k => w.heap.size + 1 ≤ k ∧ k < w8.heap.size) (fun k hk => ⟨hg8.block k (by simp; exact hk.2) (by intro e; injection e with e; have := hk.1; omega), hk.1, by have := hk.2; omega⟩)) (fun k hk => hk) (by omega) _ _ _ _ _)
      · rw [if_neg hd]
        rw [if_neg hd] at hsh
        replace hsh : Res.bad 2 (hereP l en i) = R := hsh
        subst hsh
        have hst := hP2.step (j := i) (by omega)
        go_wp2_with fail
        refine (fail_any l en i nd 2 (w2.setCell ⟨pb, 1, none⟩ (.int .i64 ((i : Nat) : Int))) B pb tv hst.1).mono ?_
        rintro e8 w8 ⟨rfl, hb8⟩
        go_wp2_with fail
        exact ⟨rfl, grown_below (grown_grown hgw2 hst.2) hb8, rfl⟩

end Ru
end Go.Proofs.YtbadplbdgpbdaaaDoor

namespace Go.Proofs.YtbadplbdgpbdaaaDoor
open Go.RowKit
namespace Ru
open Lx
open Sl (strV Reads)

set_option maxRecDepth 100000 in
set_option maxHeartbeats 16000000 in
theorem dates_any (deep : Int) (hd0 : 0 ≤ deep) (hd1 : deep ≤ 1000) (l : List Tok) (en : Int) (hl : l.length ≤ 1000000) (fa : Nat → Nat → Res Expr) (hfa : SubAll 119 (deep + 1) l en fa) : SubAll 128 deep l en (datesP l en fa) := by
  intro i nd w B pb tv h hnd
  have hbA : Below w.heap.size w (w.alloc (.cells #[.int .i64 0, .int .i64 0, .int .i64 0, strV [], .slice none 0 0] 48)) := (Below.refl _ _).alloc (Nat.le_refl _) _
  have hA := h.below hbA (Nat.le_refl _)
  have hgA : w.grownBy (w.alloc (.cells #[.int .i64 0, .int .i64 0, .int .i64 0, strV [], .slice none 0 0] 48)) (some pb) := grown_of _ hbA
  have BR := Blk.new w 48 #[.int .i64 0, .int .i64 0, .int .i64 0, strV [], .slice none 0 0]
  have hlt := h.lt
  obtain ⟨R, hRR⟩ : ∃ R, R = datesP l en fa i nd := ⟨_, rfl⟩
  rw [← hRR]
  have hsh := hRR.symm
  clear hRR
  unfold datesP at hsh
  go_enter Tryd.func128, Tryd.ntmps128
  go_wp2_with fail
  cases hk : kindP l i 5 with
  | false =>
    rw [take_bad hk] at hsh
    replace hsh : Res.bad 2 (hereP l en i) = R := hsh
    subst hsh
    refine (take_no l en i nd 5 _ B pb tv hA hk).mono ?_
    rintro e2 w2 ⟨rfl, hg2⟩
    go_wp2_with fail
    exact ⟨rfl, grown_grown hgA hg2, rfl⟩
  | true =>
    obtain ⟨t, ht, ht1⟩ := kind_tok hk
    have hil : i < l.length := (List.getElem?_eq_some_iff.1 ht).1
    rw [take_good ht ht1] at hsh
    have hT := Lib.hid (take_yes l en i nd 5 t _ B pb tv hA ht ht1 hl)
    replace hsh : (((if isP l (i + 1) 3 [46, 46] = true then (takeP l en 5 (i + 1 + 1) nd).bind fun b k nd => if b.2.1 < t.2.1 then failP l en 3 (i + 1 + 1) else .ok b.2.1 k nd else .ok t.2.1 (i + 1) nd) : Res Int).bind fun b j nd =>
      (mustP l en [58] j nd).bind fun _ j nd => (fa j nd).bind fun e j nd => nodeP l en (.mk 5 t.2.1 b [] [e]) j nd) = R := hsh
    clear hk
    refine hT.out.mono ?_
    rintro e3 w3 ⟨rfl, hg3, hP3⟩
    unfold tokA
    clear hT
    have hgw3 := grown_grown hgA hg3
    have hR3 : Blk w3 w.heap.size 48 #[.int .i64 0, .int .i64 0, .int .i64 0, strV [], .slice none 0 0] := (hg3.block w.heap.size (by simp) (by intro e; injection e with e; omega)).trans BR
    have z3 := hR3.lt
    clear hA BR
    cases hs : isP l (i + 1) 3 [46, 46] with
    | false =>
      rw [hs, if_neg (by decide)] at hsh
      replace hsh : ((mustP l en [58] (i + 1) nd).bind fun _ j nd => (fa j nd).bind fun e j nd => nodeP l en (.mk 5 t.2.1 t.2.1 [] [e]) j nd) = R := hsh
      replace hsh := Lib.hid hsh
      have hE1 := Lib.hid (eat_no l en (i + 1) nd 3 [46, 46] w3 B pb tv hP3 hs)
      clear hs
      go_wp2_with fail
      refine hE1.out.mono ?_
      rintro e5 w5 ⟨rfl, hb5⟩
      have hP5 := hP3.below hb5 (Nat.le_refl _)
      have hgw5 := grown_below hgw3 hb5
      have z35 := hb5.size
      have hz5 : w.heap.size + 1 ≤ w5.heap.size := by omega
      have hRbs : Hid (∀ W, w5.grownBy W (some pb) → Blk W w.heap.size 48 #[.int .i64 0, .int .i64 0, .int .i64 0, strV [], .slice none 0 0]) := Lib.hid fun W hW => (hW.block w.heap.size (by omega) (by intro e; injection e with e; omega)).trans ((hb5.block w.heap.size (by omega)).trans hR3)
      clear hE1 hP3 hR3
      go_wp2_with fail
      cases hm : isP l (i + 1) 3 [58] with
      | false =>
        have hsh := hsh.out
        unfold mustP at hsh
        rw [hm, if_neg (by decide)] at hsh
        replace hsh : Res.bad 2 (hereP l en (i + 1)) = R := hsh
        subst hsh
        refine (must_no l en (i + 1) nd [58] w5 B pb tv hP5 hm).mono ?_
        rintro e6 w6 ⟨rfl, hg6⟩
        go_wp2_with fail
        exact ⟨rfl, grown_grown hgw5 hg6, rfl⟩
      | true =>
        have hil6 := isP_lt hm
        have hsh := hsh.out
        unfold mustP at hsh
        rw [hm, if_pos rfl] at hsh
        refine (must_yes l en (i + 1) nd [58] w5 B pb tv hP5 hm hl).mono ?_
        rintro e6 w6 ⟨rfl, hg6, hP6⟩
        clear hm
        have hgw6 := grown_grown hgw5 hg6
        have hF := Lib.hid (hfa ((i + 1) + 1) nd w6 B pb tv hP6 hnd)
        cases hk : fa ((i + 1) + 1) nd with
        | bad err p =>
          rw [hk] at hF
          replace hsh : (fa ((i + 1) + 1) nd).bind (fun e j nd => nodeP l en (.mk 5 t.2.1 t.2.1 [] [e]) j nd) = R := hsh
          rw [hk] at hsh
          replace hsh : Res.bad err p = R := hsh
          subst hsh
          clear hk
          go_wp2_with fail
          refine hF.out.mono ?_
          rintro e7 w7 ⟨hg7, rfl⟩
          go_wp2_with fail
          exact ⟨rfl, grown_grown hgw6 hg7, rfl⟩
        | ok e j nj =>
          rw [hk] at hF
          replace hsh : (fa ((i + 1) + 1) nd).bind (fun e j nd => nodeP l en (.mk 5 t.2.1 t.2.1 [] [e]) j nd) = R := hsh
          rw [hk] at hsh
          replace hsh : nodeP l en (.mk 5 t.2.1 t.2.1 [] [e]) j nj = R := hsh
          clear hk
          replace hsh := Lib.hid hsh
          go_wp2_with fail
          refine hF.out.mono ?_
          rintro e7 w7 ⟨hg7, A, cap, rfl, hE, hP7, hn7⟩
          unfold exprA
          have hgw7 := grown_grown hgw6 hg7
          have hz6 := hg6.size
          have hz7 := hg7.size
          have hbW : Below w7.heap.size w7 (w7.alloc (.cells #[.int .i64 e.kind, .int .i64 e.a, .int .i64 e.b, strV e.name, .slice A e.kids.length cap] 48)) := (Below.refl _ _).alloc (Nat.le_refl _) _
          have hgW : w7.grownBy (w7.alloc (.cells #[.int .i64 e.kind, .int .i64 e.a, .int .i64 e.b, strV e.name, .slice A e.kids.length cap] 48)) (some pb) := grown_of _ hbW
          have hPW := hP7.below (B' := w7.heap.size) hbW (Nat.le_refl _)
          have hR7 : Blk (w7.alloc (.cells #[.int .i64 e.kind, .int .i64 e.a, .int .i64 e.b, strV e.name, .slice A e.kids.length cap] 48)) w.heap.size 48 #[.int .i64 0, .int .i64 0, .int .i64 0, strV [], .slice none 0 0] := Blk.alloc (hRbs.out w7 (grown_grown hg6 hg7)) _
          have O := Lib.hid (hE.one (cap := cap) (k := 5) (x := t.2.1) (y := t.2.1) (by decide) (by decide) (S' := fun k => w.heap.size + 1 ≤ k ∧ k < w7.heap.size + 1) (fun k hk => ⟨hk.2, by have := hk.1; omega, by have := hk.2; omega⟩) ⟨by omega, by omega⟩ 48)
          clear hE
          go_wp2_with fail
          by_cases hn8 : 600 < nj + 1
          · have hsh := hsh.out
            unfold nodeP at hsh
            rw [if_pos hn8] at hsh
            subst hsh
            refine (node_no l en j nj 5 t.2.1 t.2.1 [] (some ⟨w7.heap.size, 0, none⟩) 1 1 (w7.alloc (.cells #[.int .i64 e.kind, .int .i64 e.a, .int .i64 e.b, strV e.name, .slice A e.kids.length cap] 48)) B pb tv hPW hn8 hn7).mono ?_
            rintro e8 w8 ⟨rfl, hg8⟩
            go_wp2_with fail
            exact ⟨rfl, grown_grown (grown_grown hgw7 hgW) hg8, rfl⟩
          · have hsh := hsh.out
            unfold nodeP at hsh
            rw [if_neg hn8] at hsh
            replace hsh : Res.ok (Expr.mk 5 t.2.1 t.2.1 [] [e]) j (nj + 1) = R := hsh
            subst hsh
            refine (node_yes l en j nj 5 t.2.1 t.2.1 [] (some ⟨w7.heap.size, 0, none⟩) 1 1 (w7.alloc (.cells #[.int .i64 e.kind, .int .i64 e.a, .int .i64 e.b, strV e.name, .slice A e.kids.length cap] 48)) B pb tv hPW hn8).mono ?_
            rintro e8 w8 ⟨rfl, hg8, hP8⟩
            have hR8 : Blk w8 w.heap.size 48 #[.int .i64 0, .int .i64 0, .int .i64 0, strV [], .slice none 0 0] := (hg8.block w.heap.size (by simp; omega) (by intro e; injection e with e; omega)).trans hR7
            obtain ⟨⟨u0, u1, u2, u3, u4⟩, v0, v1, v2, v3, v4⟩ := set_cells5 hR8
            have hz8 := hg8.size
            simp at hz8
            go_wp2_with fail
            have E := ((((hR8.set 0 (.int .i64 5)).set 1 (.int .i64 t.2.1)).set 2 (.int .i64 t.2.1)).set 3 (strV [])).set 4 (.slice (some ⟨w7.heap.size, 0, none⟩) 1 1)
            obtain ⟨⟨e0', e1', e2', e3', e4'⟩, _⟩ := set_cells5 (a0 := .int .i64 5) (a1 := .int .i64 t.2.1) (a2 := .int .i64 t.2.1) (a3 := strV []) (a4 := .slice (some ⟨w7.heap.size, 0, none⟩) 1 1) E
            exact bodyPost_ret (v := exprA (.mk 5 t.2.1 t.2.1 [] [e]) (some ⟨w7.heap.size, 0, none⟩) 1) (by simp [results, Tryd.results128, e0', e1', e2', e3', e4', go_sem, exprA, Expr.kind, Expr.a, Expr.b, Expr.name, Expr.kids]) rfl (fin_ok hlt hP8 (grown_grown (grown_grown hgw7 hgW) hg8) (O.out.keep (S' := fun k => w.heap.size + 1 ≤ k ∧ k < w8.heap.size) (fun k hk => ⟨hg8.block k (by simp; exact hk.2) (by intro e; injection e with e; have := hk.1; omega), hk.1, by have := hk.2; omega⟩)) (fun k hk => hk) (by omega) _ _ _ _ _)
    | true =>
      have hil2 := isP_lt hs
      rw [hs, if_pos rfl] at hsh
      have hE1 := Lib.hid (eat_yes l en (i + 1) nd 3 [46, 46] w3 B pb tv hP3 hs hl)
      clear hs
      go_wp2_with fail
      refine hE1.out.mono ?_
      rintro e4 w4 ⟨rfl, hg4, hP4⟩
      have c4 : w4.cell? ⟨pb, 1, none⟩ = some (.int .i64 ((i + 2) : Nat)) := Blk.cell hP4.blk 1
      have zp4 := hP4.lt
      have hgw4 := grown_grown hgw3 hg4
      clear hE1
      go_wp2_with fail
      cases hk : kindP l (i + 2) 5 with
      | false =>
        rw [take_bad hk] at hsh
        replace hsh : Res.bad 2 (hereP l en (i + 2)) = R := hsh
        subst hsh
        refine (take_no l en (i + 2) nd 5 _ B pb tv hP4 hk).mono ?_
        rintro e5 w5 ⟨rfl, hg5⟩
        go_wp2_with fail
        exact ⟨rfl, grown_grown hgw4 hg5, rfl⟩
      | true =>
        obtain ⟨u, hu, hu1⟩ := kind_tok hk
        rw [take_good hu hu1] at hsh
        replace hsh : (((if u.2.1 < t.2.1 then failP l en 3 (i + 2) else .ok u.2.1 (i + 3) nd) : Res Int).bind fun b j nd =>
          (mustP l en [58] j nd).bind fun _ j nd => (fa j nd).bind fun e j nd => nodeP l en (.mk 5 t.2.1 b [] [e]) j nd) = R := hsh
        clear hk
        refine (take_yes l en (i + 2) nd 5 u _ B pb tv hP4 hu hu1 hl).mono ?_
        rintro e5 w5 ⟨rfl, hg5, hP5⟩
        unfold tokA
        have hgw5 := grown_grown hgw4 hg5
        have p1 : w5.cell? ⟨pb, 1, none⟩ = some (.int .i64 ((i + 3) : Nat)) := Blk.cell hP5.blk 1
        have pf1 : w5.frozen? ⟨pb, 1, none⟩ = false := Blk.frozen hP5.blk 1
        have z5 := hP5.lt
        rcases dec (u.2.1 < t.2.1) with ⟨q, hv⟩ | ⟨q, hv⟩
        · rw [if_pos hv] at hsh
          replace hsh : Res.bad 3 (hereP l en (i + 2)) = R := hsh
          subst hsh
          have hst := hP5.step (j := i + 2) (by have := hP5.i; omega)
          go_wp2_with fail
          refine (fail_any l en (i + 2) nd 3 (w5.setCell ⟨pb, 1, none⟩ (.int .i64 ((i + 2 : Nat) : Int))) B pb tv hst.1).mono ?_
          rintro e8 w8 ⟨rfl, hb8⟩
          go_wp2_with fail
          exact ⟨rfl, grown_below (grown_grown hgw5 hst.2) hb8, rfl⟩
        rw [if_neg hv] at hsh
        replace hsh : ((mustP l en [58] (i + 3) nd).bind fun _ j nd => (fa j nd).bind fun e j nd => nodeP l en (.mk 5 t.2.1 u.2.1 [] [e]) j nd) = R := hsh
        replace hsh := Lib.hid hsh
        have hg35 := grown_grown hg4 hg5
        have z35 := hg35.size
        have hz5 : w.heap.size + 1 ≤ w5.heap.size := by omega
        have hRbs : Hid (∀ W, w5.grownBy W (some pb) → Blk W w.heap.size 48 #[.int .i64 0, .int .i64 0, .int .i64 0, strV [], .slice none 0 0]) := Lib.hid fun W hW => ((grown_grown hg35 hW).block w.heap.size (by omega) (by intro e; injection e with e; omega)).trans hR3
        clear hP3 hR3 p1 pf1
        go_wp2_with fail
        cases hm : isP l (i + 3) 3 [58] with
        | false =>
          have hsh := hsh.out
          unfold mustP at hsh
          rw [hm, if_neg (by decide)] at hsh
          replace hsh : Res.bad 2 (hereP l en (i + 3)) = R := hsh
          subst hsh
          refine (must_no l en (i + 3) nd [58] w5 B pb tv hP5 hm).mono ?_
          rintro e6 w6 ⟨rfl, hg6⟩
          go_wp2_with fail
          exact ⟨rfl, grown_grown hgw5 hg6, rfl⟩
        | true =>
          have hil6 := isP_lt hm
          have hsh := hsh.out
          unfold mustP at hsh
          rw [hm, if_pos rfl] at hsh
          refine (must_yes l en (i + 3) nd [58] w5 B pb tv hP5 hm hl).mono ?_
          rintro e6 w6 ⟨rfl, hg6, hP6⟩
          clear hm
          have hgw6 := grown_grown hgw5 hg6
          have hF := Lib.hid (hfa ((i + 3) + 1) nd w6 B pb tv hP6 hnd)
          cases hk : fa ((i + 3) + 1) nd with
          | bad err p =>
            rw [hk] at hF
            replace hsh : (fa ((i + 3) + 1) nd).bind (fun e j nd => nodeP l en (.mk 5 t.2.1 u.2.1 [] [e]) j nd) = R := hsh
            rw [hk] at hsh
            replace hsh : Res.bad err p = R := hsh
            subst hsh
            clear hk
            go_wp2_with fail
            refine hF.out.mono ?_
            rintro e7 w7 ⟨hg7, rfl⟩
            go_wp2_with fail
            exact ⟨rfl, grown_grown hgw6 hg7, rfl⟩
          | ok e j nj =>
            rw [hk] at hF
            replace hsh : (fa ((i + 3) + 1) nd).bind (fun e j nd => nodeP l en (.mk 5 t.2.1 u.2.1 [] [e]) j nd) = R := hsh
            rw [hk] at hsh
            replace hsh : nodeP l en (.mk 5 t.2.1 u.2.1 [] [e]) j nj = R := hsh
            clear hk
            replace hsh := Lib.hid hsh
            go_wp2_with fail
            refine hF.out.mono ?_
            rintro e7 w7 ⟨hg7, A, cap, rfl, hE, hP7, hn7⟩
            unfold exprA
            have hgw7 := grown_grown hgw6 hg7
            have hz6 := hg6.size
            have hz7 := hg7.size
            have hbW : Below w7.heap.size w7 (w7.alloc (.cells #[.int .i64 e.kind, .int .i64 e.a, .int .i64 e.b, strV e.name, .slice A e.kids.length cap] 48)) := (Below.refl _ _).alloc (Nat.le_refl _) _
            have hgW : w7.grownBy (w7.alloc (.cells #[.int .i64 e.kind, .int .i64 e.a, .int .i64 e.b, strV e.name, .slice A e.kids.length cap] 48)) (some pb) := grown_of _ hbW
            have hPW := hP7.below (B' := w7.heap.size) hbW (Nat.le_refl _)
            have hR7 : Blk (w7.alloc (.cells #[.int .i64 e.kind, .int .i64 e.a, .int .i64 e.b, strV e.name, .slice A e.kids.length cap] 48)) w.heap.size 48 #[.int .i64 0, .int .i64 0, .int .i64 0, strV [], .slice none 0 0] := Blk.alloc (hRbs.out w7 (grown_grown hg6 hg7)) _
            have O := Lib.hid (hE.one (cap := cap) (k := 5) (x := t.2.1) (y := u.2.1) (by decide) (by decide) (S' := fun k => w.heap.size + 1 ≤ k ∧ k < w7.heap.size + 1) (fun k hk => ⟨hk.2, by have := hk.1; omega, by have := hk.2; omega⟩) ⟨by omega, by omega⟩ 48)
            clear hE
            go_wp2_with fail
            by_cases hn8 : 600 < nj + 1
            · have hsh := hsh.out
              unfold nodeP at hsh
              rw [if_pos hn8] at hsh
              subst hsh
              refine (node_no l en j nj 5 t.2.1 u.2.1 [] (some ⟨w7.heap.size, 0, none⟩) 1 1 (w7.alloc (.cells #[.int .i64 e.kind, .int .i64 e.a, .int .i64 e.b, strV e.name, .slice A e.kids.length cap] 48)) B pb tv hPW hn8 hn7).mono ?_
              rintro e8 w8 ⟨rfl, hg8⟩
              go_wp2_with fail
              exact ⟨rfl, grown_grown (grown_grown hgw7 hgW) hg8, rfl⟩
            · have hsh := hsh.out
              unfold nodeP at hsh
              rw [if_neg hn8] at hsh
              replace hsh : Res.ok (Expr.mk 5 t.2.1 u.2.1 [] [e]) j (nj + 1) = R := hsh
              subst hsh
              refine (node_yes l en j nj 5 t.2.1 u.2.1 [] (some ⟨w7.heap.size, 0, none⟩) 1 1 (w7.alloc (.cells #[.int .i64 e.kind, .int .i64 e.a, .int .i64 e.b, strV e.name, .slice A e.kids.length cap] 48)) B pb tv hPW hn8).mono ?_
              rintro e8 w8 ⟨rfl, hg8, hP8⟩
              have hR8 : Blk w8 w.heap.size 48 #[.int .i64 0, .int .i64 0, .int .i64 0, strV [], .slice none 0 0] := (hg8.block w.heap.size (by simp; omega) (by intro e; injection e with e; omega)).trans hR7
              obtain ⟨⟨u0, u1, u2, u3, u4⟩, v0, v1, v2, v3, v4⟩ := set_cells5 hR8
              have hz8 := hg8.size
              simp at hz8
              go_wp2_with fail
              have E := ((((hR8.set 0 (.int .i64 5)).set 1 (.int .i64 t.2.1)).set 2 (.int .i64 u.2.1)).set 3 (strV [])).set 4 (.slice (some ⟨w7.heap.size, 0, none⟩) 1 1)
              obtain ⟨⟨e0', e1', e2', e3', e4'⟩, _⟩ := set_cells5 (a0 := .int .i64 5) (a1 := .int .i64 t.2.1) (a2 := .int .i64 u.2.1) (a3 := strV []) (a4 := .slice (some ⟨w7.heap.size, 0, none⟩) 1 1) E
              exact bodyPost_ret (v := exprA (.mk 5 t.2.1 u.2.1 [] [e]) (some ⟨w7.heap.size, 0, none⟩) 1) (by simp [results, Tryd.results128, e0', e1', e2', e3', e4', go_sem, exprA, Expr.kind, Expr.a, Expr.b, Expr.name, Expr.kids]) rfl (fin_ok hlt hP8 (grown_grown (grown_grown hgw7 hgW) hg8) (O.out.keep (S' := fun k => w.heap.size + 1 ≤ k ∧ k < w8.heap.size) (fun k hk => ⟨hg8.block k (by simp; exact hk.2) (by intro e; injection e with e; have := hk.1; omega), hk.1, by have := hk.2; omega⟩)) (fun k hk => hk) (by omega) _ _ _ _ _)

end Ru
end Go.Proofs.YtbadplbdgpbdaaaDoor

namespace Go.Proofs.YtbadplbdgpbdaaaDoor
open Go.RowKit
namespace Ru
open Lx
open Sl (strV Reads)

set_option maxRecDepth 100000 in
set_option maxHeartbeats 32000000 in
theorem thing_step (deep : Int) (hd0 : 1 ≤ deep) (hd1 : deep ≤ 40) (d : Nat) (l : List Tok) (en : Int) (hl : l.length ≤ 1000000) (hnm : ∀ t ∈ l, t.2.2.2.length ≤ 9223372036854775807)
    (hex : SubAll 95 (deep + 1) l en (exprP l en (thingP l en d))) (hwk : SubAll 127 deep l en (weeklyP l en (factorP l en (thingP l en d)))) (hdt : SubAll 128 deep l en (datesP l en (factorP l en (thingP l en d)))) :
    SubAll 124 deep l en (thingP l en (d + 1)) := by
  intro i nd w B pb tv h hnd
  have hbA : Below w.heap.size w (w.alloc (.cells #[.int .i64 0, .int .i64 0, .int .i64 0, strV [], .slice none 0 0] 48)) := (Below.refl _ _).alloc (Nat.le_refl _) _
  have hP0 := h.below hbA (Nat.le_refl _)
  have hg0 : w.grownBy (w.alloc (.cells #[.int .i64 0, .int .i64 0, .int .i64 0, strV [], .slice none 0 0] 48)) (some pb) := grown_of _ hbA
  have hR0 := Blk.new w 48 #[.int .i64 0, .int .i64 0, .int .i64 0, strV [], .slice none 0 0]
  have hlt := h.lt
  obtain ⟨R, hRR⟩ : ∃ R, R = thingP l en (d + 1) i nd := ⟨_, rfl⟩
  rw [← hRR]
  have hsh := hRR.symm
  clear hRR
  rw [thingP] at hsh
  replace hex := Lib.hid hex
  replace hwk := Lib.hid hwk
  replace hdt := Lib.hid hdt
  replace hnm := Lib.hid hnm
  go_enter Tryd.func124, Tryd.ntmps124
  go_wp2_with fail
  cases hs : isP l i 3 [40] with
  | true =>
    have hil := isP_lt hs
    rw [hs, if_pos rfl] at hsh
    have hE1 := Lib.hid (eat_yes l en i nd 3 [40] (w.alloc (.cells #[.int .i64 0, .int .i64 0, .int .i64 0, strV [], .slice none 0 0] 48)) B pb tv hP0 hs hl)
    clear hs
    refine hE1.out.mono ?_
    rintro e6 w6 ⟨rfl, hg6', hP6⟩
    clear hE1
    have hg6 := grown_grown hg0 hg6'
    have hR6 : Blk w6 w.heap.size 48 #[.int .i64 0, .int .i64 0, .int .i64 0, strV [], .slice none 0 0] := (hg6'.block w.heap.size (Blk.lt hR0) (by intro e; injection e with e; omega)).trans hR0
    have z6 := Blk.lt hR6
    clear hP0 hR0
    have hF := Lib.hid (hex.out (i + 1) nd w6 B pb tv hP6 hnd)
    cases hk : exprP l en (thingP l en d) (i + 1) nd with
    | bad err p =>
      rw [hk] at hF hsh
      replace hsh : Res.bad err p = R := hsh
      subst hsh
      clear hk
      go_wp2_with fail
      refine hF.out.mono ?_
      rintro e7 w7 ⟨hg7, rfl⟩
      go_wp2_with fail
      exact ⟨rfl, grown_grown hg6 hg7, rfl⟩
    | ok e j nj =>
      rw [hk] at hF hsh
      replace hsh : (mustP l en [41] j nj).bind (fun _ j nd => .ok e j nd) = R := hsh
      clear hk
      replace hsh := Lib.hid hsh
      go_wp2_with fail
      refine hF.out.mono ?_
      rintro e7 w7 ⟨hg7, A, cap, rfl, hE, hP7, hn7⟩
      unfold exprA
      have z7 := hg7.size
      have hR7 : Blk w7 w.heap.size 48 #[.int .i64 0, .int .i64 0, .int .i64 0, strV [], .slice none 0 0] := (hg7.block w.heap.size z6 (by intro e; injection e with e; omega)).trans hR6
      have hb8 : Below w7.heap.size w7 (w7.alloc (.cells #[.int .i64 e.kind, .int .i64 e.a, .int .i64 e.b, strV e.name, .slice A e.kids.length cap] 48)) := (Below.refl _ _).alloc (Nat.le_refl _) _
      have hP8 := hP7.below (B' := w7.heap.size) hb8 (Nat.le_refl _)
      have hg8 := grown_below (grown_grown hg6 hg7) hb8
      have hB8 := Blk.new w7 48 #[.int .i64 e.kind, .int .i64 e.a, .int .i64 e.b, strV e.name, .slice A e.kids.length cap]
      have hR8 : Blk _ w.heap.size 48 #[.int .i64 0, .int .i64 0, .int .i64 0, strV [], .slice none 0 0] := Blk.alloc hR7 (.cells #[.int .i64 e.kind, .int .i64 e.a, .int .i64 e.b, strV e.name, .slice A e.kids.length cap] 48)
      go_wp2_with fail
      cases hm : isP l j 3 [41] with
      | false =>
        have hsh := hsh.out
        unfold mustP at hsh
        rw [hm, if_neg (by decide)] at hsh
        replace hsh : Res.bad 2 (hereP l en j) = R := hsh
        subst hsh
        refine (must_no l en j nj [41] _ B pb tv hP8 hm).mono ?_
        rintro e9 w9 ⟨rfl, hg9⟩
        go_wp2_with fail
        exact ⟨rfl, grown_grown hg8 hg9, rfl⟩
      | true =>
        have hsh := hsh.out
        unfold mustP at hsh
        rw [hm, if_pos rfl] at hsh
        replace hsh : Res.ok e (j + 1) nj = R := hsh
        subst hsh
        refine (must_yes l en j nj [41] _ B pb tv hP8 hm hl).mono ?_
        rintro e9 w9 ⟨rfl, hg9, hP9⟩
        have z9 := hg9.size
        simp at z9
        have hR9 : Blk w9 w.heap.size 48 #[.int .i64 0, .int .i64 0, .int .i64 0, strV [], .slice none 0 0] := (hg9.block w.heap.size (by simp; omega) (by intro e; injection e with e; omega)).trans hR8
        have hB9 : Blk w9 w7.heap.size 48 #[.int .i64 e.kind, .int .i64 e.a, .int .i64 e.b, strV e.name, .slice A e.kids.length cap] := (hg9.block w7.heap.size (by simp) (by intro e; injection e with e; omega)).trans hB8
        obtain ⟨⟨s0, s1, s2, s3, s4⟩, t0, t1, t2, t3, t4⟩ := set_cells5 hB9
        have hG9 := grown_grown hg8 hg9
        have O := hE.keep (w' := w9) (S' := fun k => w.heap.size + 1 ≤ k ∧ k < w9.heap.size) (fun k hk => ⟨(hg9.block k (by simp; have := hk.2; omega) (by intro e; injection e with e; have := hk.1; omega)).trans (hb8.block k hk.2), by have := hk.1; omega, by have := hk.2; omega⟩)
        obtain ⟨⟨u0, u1, u2, u3, u4⟩, v0, v1, v2, v3, v4⟩ := set_cells5 hR9
        have zz := Blk.lt hR9
        go_wp2_with fail
        have E := ((((hR9.set 0 (.int .i64 e.kind)).set 1 (.int .i64 e.a)).set 2 (.int .i64 e.b)).set 3 (strV e.name)).set 4 (.slice A e.kids.length cap)
        obtain ⟨⟨e0', e1', e2', e3', e4'⟩, _⟩ := set_cells5 (a0 := .int .i64 e.kind) (a1 := .int .i64 e.a) (a2 := .int .i64 e.b) (a3 := strV e.name) (a4 := .slice A e.kids.length cap) E
        exact bodyPost_ret (v := exprA e A cap) (by simp [results, Tryd.results124, e0', e1', e2', e3', e4', go_sem, exprA]) rfl (fin_ok hlt hP9 hG9 O (fun k hk => hk) hn7 _ _ _ _ _)
  | false =>
    rw [hs, if_neg (by decide)] at hsh
    have hE1 := Lib.hid (eat_no l en i nd 3 [40] (w.alloc (.cells #[.int .i64 0, .int .i64 0, .int .i64 0, strV [], .slice none 0 0] 48)) B pb tv hP0 hs)
    clear hs
    refine hE1.out.mono ?_
    rintro e1 w1 ⟨rfl, hb1⟩
    clear hE1
    have hP1 := hP0.below hb1 (Nat.le_refl _)
    have hg1 := grown_below hg0 hb1
    have hR1 : Blk w1 w.heap.size 48 #[.int .i64 0, .int .i64 0, .int .i64 0, strV [], .slice none 0 0] := hR0.below hb1 (Blk.lt hR0)
    clear hP0 hg0 hR0 hb1 hbA h
    go_wp2_with fail
    cases hs : isP l i 2 neverT with
    | true =>
      have hil := isP_lt hs
      rw [hs, if_pos rfl] at hsh
      have hE1 := Lib.hid (eat_yes l en i nd 2 neverT w1 B pb tv hP1 hs hl)
      clear hs
      unfold neverT at hE1
      refine hE1.out.mono ?_
      rintro e6 w6 ⟨rfl, hg6', hP6⟩
      clear hE1
      have hg6 := grown_grown hg1 hg6'
      have hR6 : Blk w6 w.heap.size 48 #[.int .i64 0, .int .i64 0, .int .i64 0, strV [], .slice none 0 0] := (hg6'.block w.heap.size (Blk.lt hR1) (by intro e; injection e with e; omega)).trans hR1
      have z6 := Blk.lt hR6
      clear hP1 hR1
      go_wp2_with fail
      by_cases hn8 : 600 < nd + 1
      · unfold nodeP at hsh
        rw [if_pos hn8] at hsh
        subst hsh
        refine (node_no l en (i + 1) nd 1 0 0 [] none 0 0 w6 B pb tv hP6 hn8 hnd).mono ?_
        rintro e8 w8 ⟨rfl, hg8⟩
        go_wp2_with fail
        exact ⟨rfl, grown_grown hg6 hg8, rfl⟩
      · unfold nodeP at hsh
        rw [if_neg hn8] at hsh
        replace hsh : Res.ok (.mk 1 0 0 [] []) (i + 1) (nd + 1) = R := hsh
        subst hsh
        refine (node_yes l en (i + 1) nd 1 0 0 [] none 0 0 w6 B pb tv hP6 hn8).mono ?_
        rintro e8 w8 ⟨rfl, hg8, hP8⟩
        have hR8 : Blk w8 w.heap.size 48 #[.int .i64 0, .int .i64 0, .int .i64 0, strV [], .slice none 0 0] := (hg8.block w.heap.size (Blk.lt hR6) (by intro e; injection e with e; omega)).trans hR6
        have hG8 := grown_grown hg6 hg8
        have O : ExprOk w8 (fun k => w.heap.size + 1 ≤ k ∧ k < w8.heap.size) (.mk 1 0 0 [] []) none := ExprOk.leaf (by decide) (by decide) (by decide)
        obtain ⟨⟨u0, u1, u2, u3, u4⟩, v0, v1, v2, v3, v4⟩ := set_cells5 hR8
        have zz := Blk.lt hR8
        go_wp2_with fail
        have E := ((((hR8.set 0 (.int .i64 1)).set 1 (.int .i64 0)).set 2 (.int .i64 0)).set 3 (strV [])).set 4 (.slice none 0 0)
        obtain ⟨⟨e0', e1', e2', e3', e4'⟩, _⟩ := set_cells5 (a0 := .int .i64 1) (a1 := .int .i64 0) (a2 := .int .i64 0) (a3 := strV []) (a4 := .slice none 0 0) E
        exact bodyPost_ret (v := exprA (.mk 1 0 0 [] []) none 0) (by simp [results, Tryd.results124, e0', e1', e2', e3', e4', go_sem, exprA, Expr.kind, Expr.a, Expr.b, Expr.name, Expr.kids]) rfl (fin_ok hlt hP8 hG8 O (fun k hk => hk) (by omega) _ _ _ _ _)
    | false =>
      rw [hs, if_neg (by decide)] at hsh
      have hE1 := Lib.hid (eat_no l en i nd 2 neverT w1 B pb tv hP1 hs)
      clear hs
      unfold neverT at hE1
      refine hE1.out.mono ?_
      rintro e2 w2 ⟨rfl, hb2⟩
      clear hE1
      have hP2 := hP1.below hb2 (Nat.le_refl _)
      have hg2 := grown_below hg1 hb2
      have hR2 : Blk w2 w.heap.size 48 #[.int .i64 0, .int .i64 0, .int .i64 0, strV [], .slice none 0 0] := hR1.below hb2 (Blk.lt hR1)
      clear hP1 hg1 hR1 hb2
      go_wp2_with fail
      cases hs : isP l i 2 alwaysT with
      | true =>
        have hil := isP_lt hs
        rw [hs, if_pos rfl] at hsh
        have hE1 := Lib.hid (eat_yes l en i nd 2 alwaysT w2 B pb tv hP2 hs hl)
        clear hs
        unfold alwaysT at hE1
        refine hE1.out.mono ?_
        rintro e6 w6 ⟨rfl, hg6', hP6⟩
        clear hE1
        have hg6 := grown_grown hg2 hg6'
        have hR6 : Blk w6 w.heap.size 48 #[.int .i64 0, .int .i64 0, .int .i64 0, strV [], .slice none 0 0] := (hg6'.block w.heap.size (Blk.lt hR2) (by intro e; injection e with e; omega)).trans hR2
        have z6 := Blk.lt hR6
        clear hP2 hR2
        go_wp2_with fail
        by_cases hn8 : 600 < nd + 1
        · unfold nodeP at hsh
          rw [if_pos hn8] at hsh
          subst hsh
          refine (node_no l en (i + 1) nd 2 0 0 [] none 0 0 w6 B pb tv hP6 hn8 hnd).mono ?_
          rintro e8 w8 ⟨rfl, hg8⟩
          go_wp2_with fail
          exact ⟨rfl, grown_grown hg6 hg8, rfl⟩
        · unfold nodeP at hsh
          rw [if_neg hn8] at hsh
          replace hsh : Res.ok (.mk 2 0 0 [] []) (i + 1) (nd + 1) = R := hsh
          subst hsh
          refine (node_yes l en (i + 1) nd 2 0 0 [] none 0 0 w6 B pb tv hP6 hn8).mono ?_
          rintro e8 w8 ⟨rfl, hg8, hP8⟩
          have hR8 : Blk w8 w.heap.size 48 #[.int .i64 0, .int .i64 0, .int .i64 0, strV [], .slice none 0 0] := (hg8.block w.heap.size (Blk.lt hR6) (by intro e; injection e with e; omega)).trans hR6
          have hG8 := grown_grown hg6 hg8
          have O : ExprOk w8 (fun k => w.heap.size + 1 ≤ k ∧ k < w8.heap.size) (.mk 2 0 0 [] []) none := ExprOk.leaf (by decide) (by decide) (by decide)
          obtain ⟨⟨u0, u1, u2, u3, u4⟩, v0, v1, v2, v3, v4⟩ := set_cells5 hR8
          have zz := Blk.lt hR8
          go_wp2_with fail
          have E := ((((hR8.set 0 (.int .i64 2)).set 1 (.int .i64 0)).set 2 (.int .i64 0)).set 3 (strV [])).set 4 (.slice none 0 0)
          obtain ⟨⟨e0', e1', e2', e3', e4'⟩, _⟩ := set_cells5 (a0 := .int .i64 2) (a1 := .int .i64 0) (a2 := .int .i64 0) (a3 := strV []) (a4 := .slice none 0 0) E
          exact bodyPost_ret (v := exprA (.mk 2 0 0 [] []) none 0) (by simp [results, Tryd.results124, e0', e1', e2', e3', e4', go_sem, exprA, Expr.kind, Expr.a, Expr.b, Expr.name, Expr.kids]) rfl (fin_ok hlt hP8 hG8 O (fun k hk => hk) (by omega) _ _ _ _ _)
      | false =>
        rw [hs, if_neg (by decide)] at hsh
        have hE1 := Lib.hid (eat_no l en i nd 2 alwaysT w2 B pb tv hP2 hs)
        clear hs
        unfold alwaysT at hE1
        refine hE1.out.mono ?_
        rintro e3 w3 ⟨rfl, hb3⟩
        clear hE1
        have hP3 := hP2.below hb3 (Nat.le_refl _)
        have hg3 := grown_below hg2 hb3
        have hR3 : Blk w3 w.heap.size 48 #[.int .i64 0, .int .i64 0, .int .i64 0, strV [], .slice none 0 0] := hR2.below hb3 (Blk.lt hR2)
        clear hP2 hg2 hR2 hb3
        go_wp2_with fail
        cases hs : isP l i 2 weeklyT with
        | true =>
          have hil := isP_lt hs
          rw [hs, if_pos rfl] at hsh
          have hE1 := Lib.hid (eat_yes l en i nd 2 weeklyT w3 B pb tv hP3 hs hl)
          clear hs
          unfold weeklyT at hE1
          refine hE1.out.mono ?_
          rintro e6 w6 ⟨rfl, hg6', hP6⟩
          clear hE1
          have hg6 := grown_grown hg3 hg6'
          have hR6 : Blk w6 w.heap.size 48 #[.int .i64 0, .int .i64 0, .int .i64 0, strV [], .slice none 0 0] := (hg6'.block w.heap.size (Blk.lt hR3) (by intro e; injection e with e; omega)).trans hR3
          have z6 := Blk.lt hR6
          clear hP3 hR3
          have hF := Lib.hid (hwk.out (i + 1) nd w6 B pb tv hP6 hnd)
          cases hk : weeklyP l en (factorP l en (thingP l en d)) (i + 1) nd with
          | bad err p =>
            rw [hk] at hF hsh
            subst hsh
            clear hk
            go_wp2_with fail
            refine hF.out.mono ?_
            rintro e7 w7 ⟨hg7, rfl⟩
            go_wp2_with fail
            exact ⟨rfl, grown_grown hg6 hg7, rfl⟩
          | ok e j nj =>
            rw [hk] at hF hsh
            subst hsh
            clear hk
            go_wp2_with fail
            refine hF.out.mono ?_
            rintro e7 w7 ⟨hg7, A, cap, rfl, hE, hP7, hn7⟩
            unfold exprA
            have z7 := hg7.size
            have hR7 : Blk w7 w.heap.size 48 #[.int .i64 0, .int .i64 0, .int .i64 0, strV [], .slice none 0 0] := (hg7.block w.heap.size z6 (by intro e; injection e with e; omega)).trans hR6
            have hG7 := grown_grown hg6 hg7
            have O := hE.keep (w' := w7) (S' := fun k => w.heap.size + 1 ≤ k ∧ k < w7.heap.size) (fun k hk => ⟨rfl, by have := hk.1; omega, hk.2⟩)
            obtain ⟨⟨u0, u1, u2, u3, u4⟩, v0, v1, v2, v3, v4⟩ := set_cells5 hR7
            have zz := Blk.lt hR7
            go_wp2_with fail
            have E := ((((hR7.set 0 (.int .i64 e.kind)).set 1 (.int .i64 e.a)).set 2 (.int .i64 e.b)).set 3 (strV e.name)).set 4 (.slice A e.kids.length cap)
            obtain ⟨⟨e0', e1', e2', e3', e4'⟩, _⟩ := set_cells5 (a0 := .int .i64 e.kind) (a1 := .int .i64 e.a) (a2 := .int .i64 e.b) (a3 := strV e.name) (a4 := .slice A e.kids.length cap) E
            exact bodyPost_ret (v := exprA e A cap) (by simp [results, Tryd.results124, e0', e1', e2', e3', e4', go_sem, exprA]) rfl (fin_ok hlt hP7 hG7 O (fun k hk => hk) hn7 _ _ _ _ _)
        | false =>
          rw [hs, if_neg (by decide)] at hsh
          have hE1 := Lib.hid (eat_no l en i nd 2 weeklyT w3 B pb tv hP3 hs)
          clear hs
          unfold weeklyT at hE1
          refine hE1.out.mono ?_
          rintro e4 w4 ⟨rfl, hb4⟩
          clear hE1
          have hP4 := hP3.below hb4 (Nat.le_refl _)
          have hg4 := grown_below hg3 hb4
          have hR4 : Blk w4 w.heap.size 48 #[.int .i64 0, .int .i64 0, .int .i64 0, strV [], .slice none 0 0] := hR3.below hb4 (Blk.lt hR3)
          clear hP3 hg3 hR3 hb4
          go_wp2_with fail
          cases hs : isP l i 2 datesT with
          | true =>
            have hil := isP_lt hs
            rw [hs, if_pos rfl] at hsh
            have hE1 := Lib.hid (eat_yes l en i nd 2 datesT w4 B pb tv hP4 hs hl)
            clear hs
            unfold datesT at hE1
            refine hE1.out.mono ?_
            rintro e6 w6 ⟨rfl, hg6', hP6⟩
            clear hE1
            have hg6 := grown_grown hg4 hg6'
            have hR6 : Blk w6 w.heap.size 48 #[.int .i64 0, .int .i64 0, .int .i64 0, strV [], .slice none 0 0] := (hg6'.block w.heap.size (Blk.lt hR4) (by intro e; injection e with e; omega)).trans hR4
            have z6 := Blk.lt hR6
            clear hP4 hR4
            have hF := Lib.hid (hdt.out (i + 1) nd w6 B pb tv hP6 hnd)
            cases hk : datesP l en (factorP l en (thingP l en d)) (i + 1) nd with
            | bad err p =>
              rw [hk] at hF hsh
              subst hsh
              clear hk
              go_wp2_with fail
              refine hF.out.mono ?_
              rintro e7 w7 ⟨hg7, rfl⟩
              go_wp2_with fail
              exact ⟨rfl, grown_grown hg6 hg7, rfl⟩
            | ok e j nj =>
              rw [hk] at hF hsh
              subst hsh
              clear hk
              go_wp2_with fail
              refine hF.out.mono ?_
              rintro e7 w7 ⟨hg7, A, cap, rfl, hE, hP7, hn7⟩
              unfold exprA
              have z7 := hg7.size
              have hR7 : Blk w7 w.heap.size 48 #[.int .i64 0, .int .i64 0, .int .i64 0, strV [], .slice none 0 0] := (hg7.block w.heap.size z6 (by intro e; injection e with e; omega)).trans hR6
              have hG7 := grown_grown hg6 hg7
              have O := hE.keep (w' := w7) (S' := fun k => w.heap.size + 1 ≤ k ∧ k < w7.heap.size) (fun k hk => ⟨rfl, by have := hk.1; omega, hk.2⟩)
              obtain ⟨⟨u0, u1, u2, u3, u4⟩, v0, v1, v2, v3, v4⟩ := set_cells5 hR7
              have zz := Blk.lt hR7
              go_wp2_with fail
              have E := ((((hR7.set 0 (.int .i64 e.kind)).set 1 (.int .i64 e.a)).set 2 (.int .i64 e.b)).set 3 (strV e.name)).set 4 (.slice A e.kids.length cap)
              obtain ⟨⟨e0', e1', e2', e3', e4'⟩, _⟩ := set_cells5 (a0 := .int .i64 e.kind) (a1 := .int .i64 e.a) (a2 := .int .i64 e.b) (a3 := strV e.name) (a4 := .slice A e.kids.length cap) E
              exact bodyPost_ret (v := exprA e A cap) (by simp [results, Tryd.results124, e0', e1', e2', e3', e4', go_sem, exprA]) rfl (fin_ok hlt hP7 hG7 O (fun k hk => hk) hn7 _ _ _ _ _)
          | false =>
            rw [hs, if_neg (by decide)] at hsh
            have hE1 := Lib.hid (eat_no l en i nd 2 datesT w4 B pb tv hP4 hs)
            clear hs
            unfold datesT at hE1
            refine hE1.out.mono ?_
            rintro e5 w5 ⟨rfl, hb5⟩
            clear hE1
            have hP5 := hP4.below hb5 (Nat.le_refl _)
            have hg5 := grown_below hg4 hb5
            have hR5 : Blk w5 w.heap.size 48 #[.int .i64 0, .int .i64 0, .int .i64 0, strV [], .slice none 0 0] := hR4.below hb5 (Blk.lt hR4)
            clear hP4 hg4 hR4 hb5
            go_wp2_with fail
            have c0 : w5.cell? ⟨pb, 0, none⟩ = some tv := Blk.cell hP5.blk 0
            have c1 : w5.cell? ⟨pb, 1, none⟩ = some (.int .i64 (i : Nat)) := Blk.cell hP5.blk 1
            have zp := hP5.lt
            have zl := hP5.le
            obtain ⟨A, cap, hAv, hl63, hc⟩ := hP5.toks
            rw [hAv] at c0
            clear hAv
            by_cases hi : i < l.length
            · obtain ⟨t, ht⟩ : ∃ t, l[i]? = some t := ⟨_, List.getElem?_eq_getElem hi⟩
              obtain ⟨b, o, rfl, hbl, k0, k1, k2, k3⟩ := hc i t ht
              have g1 : decide ((i : Int) < (l.length : Int)) = true := by simp; omega
              have g1' : decide (i < l.length) = true := by simp; omega
              have zb : b < w5.heap.size := by omega
              clear hc k1 k2 k3
              cases hk : (t.1 == 1) with
              | true =>
                have ht1 : t.1 = 1 := by simpa using hk
                rw [show kindP l i 1 = true from by unfold kindP; rw [ht]; exact hk, if_pos rfl, take_good ht ht1] at hsh
                replace hsh : nodeP l en (.mk 10 0 0 t.2.2.2 []) (i + 1) nd = R := hsh
                replace ht := Lib.hid ht
                replace hsh := Lib.hid hsh
                clear hk
                rw [ht1] at k0
                have hT := Lib.hid (fun W h => take_yes l en i nd 1 t W B pb tv h ht.out ht1 hl)
                clear ht1
                refine wp_region_below (w5.heap.size) _ (Below.refl _ _) (by kernel_rfl) (by kernel_rfl) ?_
                repeat (go_big_quiet_step ((fail)))
                refine wpQuiet_nil ?_
                rintro _ ⟨n1, rfl⟩
                have hP6 := hP5.below n1.below (Nat.le_refl _)
                have hg6 := grown_below hg5 n1.below
                have hR6 : Blk n1.w w.heap.size 48 #[.int .i64 0, .int .i64 0, .int .i64 0, strV [], .slice none 0 0] := hR5.below n1.below (Blk.lt hR5)
                generalize n1.w = w6 at *
                clear hP5 hg5 hR5
                go_wp2_with fail
                refine (hT.out w6 hP6).mono ?_
                rintro e7 w7 ⟨rfl, hg7, hP7⟩
                unfold tokA
                have hR7 : Blk w7 w.heap.size 48 #[.int .i64 0, .int .i64 0, .int .i64 0, strV [], .slice none 0 0] := (hg7.block w.heap.size (Blk.lt hR6) (by intro e; injection e with e; omega)).trans hR6
                have hg7' := grown_grown hg6 hg7
                have hnl := hnm.out t (List.mem_of_getElem? ht.out)
                replace hsh := hsh.out
                go_wp2_with fail
                by_cases hn8 : 600 < nd + 1
                · unfold nodeP at hsh
                  rw [if_pos hn8] at hsh
                  subst hsh
                  refine (node_no l en (i + 1) nd 10 0 0 t.2.2.2 none 0 0 w7 B pb tv hP7 hn8 hnd).mono ?_
                  rintro e8 w8 ⟨rfl, hg8⟩
                  go_wp2_with fail
                  exact ⟨rfl, grown_grown hg7' hg8, rfl⟩
                · unfold nodeP at hsh
                  rw [if_neg hn8] at hsh
                  replace hsh : Res.ok (.mk 10 0 0 t.2.2.2 []) (i + 1) (nd + 1) = R := hsh
                  subst hsh
                  refine (node_yes l en (i + 1) nd 10 0 0 t.2.2.2 none 0 0 w7 B pb tv hP7 hn8).mono ?_
                  rintro e8 w8 ⟨rfl, hg8, hP8⟩
                  have hR8 : Blk w8 w.heap.size 48 #[.int .i64 0, .int .i64 0, .int .i64 0, strV [], .slice none 0 0] := (hg8.block w.heap.size (Blk.lt hR7) (by intro e; injection e with e; omega)).trans hR7
                  have hG8 := grown_grown hg7' hg8
                  have O : ExprOk w8 (fun k => w.heap.size + 1 ≤ k ∧ k < w8.heap.size) (.mk 10 0 0 t.2.2.2 []) none := ExprOk.leaf (hnl) (by decide) (by decide)
                  obtain ⟨⟨u0, u1, u2, u3, u4⟩, v0, v1, v2, v3, v4⟩ := set_cells5 hR8
                  have zz := Blk.lt hR8
                  go_wp2_with fail
                  have E := ((((hR8.set 0 (.int .i64 10)).set 1 (.int .i64 0)).set 2 (.int .i64 0)).set 3 (strV t.2.2.2)).set 4 (.slice none 0 0)
                  obtain ⟨⟨e0', e1', e2', e3', e4'⟩, _⟩ := set_cells5 (a0 := .int .i64 10) (a1 := .int .i64 0) (a2 := .int .i64 0) (a3 := strV t.2.2.2) (a4 := .slice none 0 0) E
                  exact bodyPost_ret (v := exprA (.mk 10 0 0 t.2.2.2 []) none 0) (by simp [results, Tryd.results124, e0', e1', e2', e3', e4', go_sem, exprA, Expr.kind, Expr.a, Expr.b, Expr.name, Expr.kids]) rfl (fin_ok hlt hP8 hG8 O (fun k hk => hk) (by omega) _ _ _ _ _)
              | false =>
                rw [show kindP l i 1 = false from by unfold kindP; rw [ht]; exact hk, if_neg (by decide)] at hsh
                replace hsh := Lib.hid hsh
                replace ht := Lib.hid ht
                refine wp_region_below (w5.heap.size) _ (Below.refl _ _) (by kernel_rfl) (by kernel_rfl) ?_
                repeat (go_big_quiet_step ((fail)))
                refine wpQuiet_nil ?_
                rintro _ ⟨n1, rfl⟩
                have hP6 := hP5.below n1.below (Nat.le_refl _)
                have hg6 := grown_below hg5 n1.below
                have hR6 : Blk n1.w w.heap.size 48 #[.int .i64 0, .int .i64 0, .int .i64 0, strV [], .slice none 0 0] := hR5.below n1.below (Blk.lt hR5)
                generalize n1.w = w6 at *
                clear hP5 hg5 hR5
                go_wp2_with fail
                replace hsh := hsh.out
                unfold spanP at hsh
                cases hk1 : kindP l i 4 with
                | false =>
                  rw [take_bad hk1] at hsh
                  replace hsh : Res.bad 2 (hereP l en i) = R := hsh
                  subst hsh
                  refine (take_no l en i nd 4 w6 B pb tv hP6 hk1).mono ?_
                  rintro e7 w7 ⟨rfl, hg7⟩
                  go_wp2_with fail
                  exact ⟨rfl, grown_grown hg6 hg7, rfl⟩
                | true =>
                  obtain ⟨t, ht, ht1⟩ := kind_tok hk1
                  rw [take_good ht ht1] at hsh
                  replace hsh : ((mustP l en [45] (i + 1) nd).bind fun _ j nd => (takeP l en 4 j nd).bind fun b k nd =>
                    if b.2.1 ≤ t.2.1 then failP l en 3 j else nodeP l en (.mk 3 t.2.1 b.2.1 [] []) k nd) = R := hsh
                  clear hk1
                  refine (take_yes l en i nd 4 t w6 B pb tv hP6 ht ht1 hl).mono ?_
                  rintro e7 w7 ⟨rfl, hg7', hP7⟩
                  unfold tokA
                  have hg7 := grown_grown hg6 hg7'
                  have hR7 : Blk w7 w.heap.size 48 #[.int .i64 0, .int .i64 0, .int .i64 0, strV [], .slice none 0 0] := (hg7'.block w.heap.size (Blk.lt hR6) (by intro e; injection e with e; omega)).trans hR6
                  clear hP6 hR6
                  go_wp2_with fail
                  cases hm : isP l (i + 1) 3 [45] with
                  | false =>
                    unfold mustP at hsh
                    rw [hm, if_neg (by decide)] at hsh
                    replace hsh : Res.bad 2 (hereP l en (i + 1)) = R := hsh
                    subst hsh
                    refine (must_no l en (i + 1) nd [45] _ B pb tv hP7 hm).mono ?_
                    rintro e9 w9 ⟨rfl, hg9⟩
                    go_wp2_with fail
                    exact ⟨rfl, grown_grown hg7 hg9, rfl⟩
                  | true =>
                    unfold mustP at hsh
                    rw [hm, if_pos rfl] at hsh
                    replace hsh : ((takeP l en 4 (i + 2) nd).bind fun b k nd => if b.2.1 ≤ t.2.1 then failP l en 3 (i + 2) else nodeP l en (.mk 3 t.2.1 b.2.1 [] []) k nd) = R := hsh
                    refine (must_yes l en (i + 1) nd [45] _ B pb tv hP7 hm hl).mono ?_
                    rintro e8 w8 ⟨rfl, hg8', hP8⟩
                    have hg8 := grown_grown hg7 hg8'
                    have hR8 : Blk w8 w.heap.size 48 #[.int .i64 0, .int .i64 0, .int .i64 0, strV [], .slice none 0 0] := (hg8'.block w.heap.size (Blk.lt hR7) (by intro e; injection e with e; omega)).trans hR7
                    have cc : w8.cell? ⟨pb, 1, none⟩ = some (.int .i64 ((i + 2) : Nat)) := Blk.cell hP8.blk 1
                    have z8 := hP8.lt
                    clear hP7 hR7
                    go_wp2_with fail
                    cases hk2 : kindP l (i + 2) 4 with
                    | false =>
                      rw [take_bad hk2] at hsh
                      replace hsh : Res.bad 2 (hereP l en (i + 2)) = R := hsh
                      subst hsh
                      refine (take_no l en (i + 2) nd 4 w8 B pb tv hP8 hk2).mono ?_
                      rintro e9 w9 ⟨rfl, hg9⟩
                      go_wp2_with fail
                      exact ⟨rfl, grown_grown hg8 hg9, rfl⟩
                    | true =>
                      obtain ⟨u, hu, hu1⟩ := kind_tok hk2
                      rw [take_good hu hu1] at hsh
                      replace hsh : (if u.2.1 ≤ t.2.1 then failP l en 3 (i + 2) else nodeP l en (.mk 3 t.2.1 u.2.1 [] []) (i + 3) nd) = R := hsh
                      clear hk2
                      refine (take_yes l en (i + 2) nd 4 u w8 B pb tv hP8 hu hu1 hl).mono ?_
                      rintro e9 w9 ⟨rfl, hg9', hP9⟩
                      unfold tokA
                      have hg9 := grown_grown hg8 hg9'
                      have hR9 : Blk w9 w.heap.size 48 #[.int .i64 0, .int .i64 0, .int .i64 0, strV [], .slice none 0 0] := (hg9'.block w.heap.size (Blk.lt hR8) (by intro e; injection e with e; omega)).trans hR8
                      have p1 : w9.cell? ⟨pb, 1, none⟩ = some (.int .i64 ((i + 3) : Nat)) := Blk.cell hP9.blk 1
                      have pf1 : w9.frozen? ⟨pb, 1, none⟩ = false := Blk.frozen hP9.blk 1
                      have z9 := hP9.lt
                      rcases dec (u.2.1 ≤ t.2.1) with ⟨q, hv⟩ | ⟨q, hv⟩
                      · rw [if_pos hv] at hsh
                        replace hsh : Res.bad 3 (hereP l en (i + 2)) = R := hsh
                        subst hsh
                        have hst := hP9.step (j := i + 2) (by have := hP9.i; omega)
                        go_wp2_with fail
                        refine (fail_any l en (i + 2) nd 3 (w9.setCell ⟨pb, 1, none⟩ (.int .i64 ((i + 2 : Nat) : Int))) B pb tv hst.1).mono ?_
                        rintro e10 w10 ⟨rfl, hb10⟩
                        go_wp2_with fail
                        exact ⟨rfl, grown_below (grown_grown hg9 hst.2) hb10, rfl⟩
                      rw [if_neg hv] at hsh
                      clear hP8 hR8 p1 pf1
                      go_wp2_with fail
                      by_cases hn8 : 600 < nd + 1
                      · unfold nodeP at hsh
                        rw [if_pos hn8] at hsh
                        subst hsh
                        refine (node_no l en (i + 3) nd 3 t.2.1 u.2.1 [] none 0 0 w9 B pb tv hP9 hn8 hnd).mono ?_
                        rintro e8 w8 ⟨rfl, hg8⟩
                        go_wp2_with fail
                        exact ⟨rfl, grown_grown hg9 hg8, rfl⟩
                      · unfold nodeP at hsh
                        rw [if_neg hn8] at hsh
                        replace hsh : Res.ok (.mk 3 t.2.1 u.2.1 [] []) (i + 3) (nd + 1) = R := hsh
                        subst hsh
                        refine (node_yes l en (i + 3) nd 3 t.2.1 u.2.1 [] none 0 0 w9 B pb tv hP9 hn8).mono ?_
                        rintro e8 w8 ⟨rfl, hg8, hP8⟩
                        have hR8 : Blk w8 w.heap.size 48 #[.int .i64 0, .int .i64 0, .int .i64 0, strV [], .slice none 0 0] := (hg8.block w.heap.size (Blk.lt hR9) (by intro e; injection e with e; omega)).trans hR9
                        have hG8 := grown_grown hg9 hg8
                        have O : ExprOk w8 (fun k => w.heap.size + 1 ≤ k ∧ k < w8.heap.size) (.mk 3 t.2.1 u.2.1 [] []) none := ExprOk.leaf (by decide) (by decide) (by decide)
                        obtain ⟨⟨u0, u1, u2, u3, u4⟩, v0, v1, v2, v3, v4⟩ := set_cells5 hR8
                        have zz := Blk.lt hR8
                        go_wp2_with fail
                        have E := ((((hR8.set 0 (.int .i64 3)).set 1 (.int .i64 t.2.1)).set 2 (.int .i64 u.2.1)).set 3 (strV [])).set 4 (.slice none 0 0)
                        obtain ⟨⟨e0', e1', e2', e3', e4'⟩, _⟩ := set_cells5 (a0 := .int .i64 3) (a1 := .int .i64 t.2.1) (a2 := .int .i64 u.2.1) (a3 := strV []) (a4 := .slice none 0 0) E
                        exact bodyPost_ret (v := exprA (.mk 3 t.2.1 u.2.1 [] []) none 0) (by simp [results, Tryd.results124, e0', e1', e2', e3', e4', go_sem, exprA, Expr.kind, Expr.a, Expr.b, Expr.name, Expr.kids]) rfl (fin_ok hlt hP8 hG8 O (fun k hk => hk) (by omega) _ _ _ _ _)
            · have g1 : decide ((i : Int) < (l.length : Int)) = false := by simp; omega
              have g1' : decide (i < l.length) = false := by simp; omega
              clear hc
              have hn0 : l[i]? = none := List.getElem?_eq_none (by omega)
              rw [show kindP l i 1 = false from by unfold kindP; rw [hn0], if_neg (by decide)] at hsh
              replace hsh := Lib.hid hsh
              replace hn0 := Lib.hid hn0
              refine wp_region_below (w5.heap.size) _ (Below.refl _ _) (by kernel_rfl) (by kernel_rfl) ?_
              repeat (go_big_quiet_step ((fail)))
              refine wpQuiet_nil ?_
              rintro _ ⟨n1, rfl⟩
              have hP6 := hP5.below n1.below (Nat.le_refl _)
              have hg6 := grown_below hg5 n1.below
              have hR6 : Blk n1.w w.heap.size 48 #[.int .i64 0, .int .i64 0, .int .i64 0, strV [], .slice none 0 0] := hR5.below n1.below (Blk.lt hR5)
              generalize n1.w = w6 at *
              clear hP5 hg5 hR5
              go_wp2_with fail
              replace hsh := hsh.out
              unfold spanP at hsh
              cases hk1 : kindP l i 4 with
              | false =>
                rw [take_bad hk1] at hsh
                replace hsh : Res.bad 2 (hereP l en i) = R := hsh
                subst hsh
                refine (take_no l en i nd 4 w6 B pb tv hP6 hk1).mono ?_
                rintro e7 w7 ⟨rfl, hg7⟩
                go_wp2_with fail
                exact ⟨rfl, grown_grown hg6 hg7, rfl⟩
              | true =>
                obtain ⟨t, ht, ht1⟩ := kind_tok hk1
                rw [take_good ht ht1] at hsh
                replace hsh : ((mustP l en [45] (i + 1) nd).bind fun _ j nd => (takeP l en 4 j nd).bind fun b k nd =>
                  if b.2.1 ≤ t.2.1 then failP l en 3 j else nodeP l en (.mk 3 t.2.1 b.2.1 [] []) k nd) = R := hsh
                clear hk1
                refine (take_yes l en i nd 4 t w6 B pb tv hP6 ht ht1 hl).mono ?_
                rintro e7 w7 ⟨rfl, hg7', hP7⟩
                unfold tokA
                have hg7 := grown_grown hg6 hg7'
                have hR7 : Blk w7 w.heap.size 48 #[.int .i64 0, .int .i64 0, .int .i64 0, strV [], .slice none 0 0] := (hg7'.block w.heap.size (Blk.lt hR6) (by intro e; injection e with e; omega)).trans hR6
                clear hP6 hR6
                go_wp2_with fail
                cases hm : isP l (i + 1) 3 [45] with
                | false =>
                  unfold mustP at hsh
                  rw [hm, if_neg (by decide)] at hsh
                  replace hsh : Res.bad 2 (hereP l en (i + 1)) = R := hsh
                  subst hsh
                  refine (must_no l en (i + 1) nd [45] _ B pb tv hP7 hm).mono ?_
                  rintro e9 w9 ⟨rfl, hg9⟩
                  go_wp2_with fail
                  exact ⟨rfl, grown_grown hg7 hg9, rfl⟩
                | true =>
                  unfold mustP at hsh
                  rw [hm, if_pos rfl] at hsh
                  replace hsh : ((takeP l en 4 (i + 2) nd).bind fun b k nd => if b.2.1 ≤ t.2.1 then failP l en 3 (i + 2) else nodeP l en (.mk 3 t.2.1 b.2.1 [] []) k nd) = R := hsh
                  refine (must_yes l en (i + 1) nd [45] _ B pb tv hP7 hm hl).mono ?_
                  rintro e8 w8 ⟨rfl, hg8', hP8⟩
                  have hg8 := grown_grown hg7 hg8'
                  have hR8 : Blk w8 w.heap.size 48 #[.int .i64 0, .int .i64 0, .int .i64 0, strV [], .slice none 0 0] := (hg8'.block w.heap.size (Blk.lt hR7) (by intro e; injection e with e; omega)).trans hR7
                  have cc : w8.cell? ⟨pb, 1, none⟩ = some (.int .i64 ((i + 2) : Nat)) := Blk.cell hP8.blk 1
                  have z8 := hP8.lt
                  clear hP7 hR7
                  go_wp2_with fail
                  cases hk2 : kindP l (i + 2) 4 with
                  | false =>
                    rw [take_bad hk2] at hsh
                    replace hsh : Res.bad 2 (hereP l en (i + 2)) = R := hsh
                    subst hsh
                    refine (take_no l en (i + 2) nd 4 w8 B pb tv hP8 hk2).mono ?_
                    rintro e9 w9 ⟨rfl, hg9⟩
                    go_wp2_with fail
                    exact ⟨rfl, grown_grown hg8 hg9, rfl⟩
                  | true =>
                    obtain ⟨u, hu, hu1⟩ := kind_tok hk2
                    rw [take_good hu hu1] at hsh
                    replace hsh : (if u.2.1 ≤ t.2.1 then failP l en 3 (i + 2) else nodeP l en (.mk 3 t.2.1 u.2.1 [] []) (i + 3) nd) = R := hsh
                    clear hk2
                    refine (take_yes l en (i + 2) nd 4 u w8 B pb tv hP8 hu hu1 hl).mono ?_
                    rintro e9 w9 ⟨rfl, hg9', hP9⟩
                    unfold tokA
                    have hg9 := grown_grown hg8 hg9'
                    have hR9 : Blk w9 w.heap.size 48 #[.int .i64 0, .int .i64 0, .int .i64 0, strV [], .slice none 0 0] := (hg9'.block w.heap.size (Blk.lt hR8) (by intro e; injection e with e; omega)).trans hR8
                    have p1 : w9.cell? ⟨pb, 1, none⟩ = some (.int .i64 ((i + 3) : Nat)) := Blk.cell hP9.blk 1
                    have pf1 : w9.frozen? ⟨pb, 1, none⟩ = false := Blk.frozen hP9.blk 1
                    have z9 := hP9.lt
                    rcases dec (u.2.1 ≤ t.2.1) with ⟨q, hv⟩ | ⟨q, hv⟩
                    · rw [if_pos hv] at hsh
                      replace hsh : Res.bad 3 (hereP l en (i + 2)) = R := hsh
                      subst hsh
                      have hst := hP9.step (j := i + 2) (by have := hP9.i; omega)
                      go_wp2_with fail
                      refine (fail_any l en (i + 2) nd 3 (w9.setCell ⟨pb, 1, none⟩ (.int .i64 ((i + 2 : Nat) : Int))) B pb tv hst.1).mono ?_
                      rintro e10 w10 ⟨rfl, hb10⟩
                      go_wp2_with fail
                      exact ⟨rfl, grown_below (grown_grown hg9 hst.2) hb10, rfl⟩
                    rw [if_neg hv] at hsh
                    clear hP8 hR8 p1 pf1
                    go_wp2_with fail
                    by_cases hn8 : 600 < nd + 1
                    · unfold nodeP at hsh
                      rw [if_pos hn8] at hsh
                      subst hsh
                      refine (node_no l en (i + 3) nd 3 t.2.1 u.2.1 [] none 0 0 w9 B pb tv hP9 hn8 hnd).mono ?_
                      rintro e8 w8 ⟨rfl, hg8⟩
                      go_wp2_with fail
                      exact ⟨rfl, grown_grown hg9 hg8, rfl⟩
                    · unfold nodeP at hsh
                      rw [if_neg hn8] at hsh
                      replace hsh : Res.ok (.mk 3 t.2.1 u.2.1 [] []) (i + 3) (nd + 1) = R := hsh
                      subst hsh
                      refine (node_yes l en (i + 3) nd 3 t.2.1 u.2.1 [] none 0 0 w9 B pb tv hP9 hn8).mono ?_
                      rintro e8 w8 ⟨rfl, hg8, hP8⟩
                      have hR8 : Blk w8 w.heap.size 48 #[.int .i64 0, .int .i64 0, .int .i64 0, strV [], .slice none 0 0] := (hg8.block w.heap.size (Blk.lt hR9) (by intro e; injection e with e; omega)).trans hR9
                      have hG8 := grown_grown hg9 hg8
                      have O : ExprOk w8 (fun k => w.heap.size + 1 ≤ k ∧ k < w8.heap.size) (.mk 3 t.2.1 u.2.1 [] []) none := ExprOk.leaf (by decide) (by decide) (by decide)
                      obtain ⟨⟨u0, u1, u2, u3, u4⟩, v0, v1, v2, v3, v4⟩ := set_cells5 hR8
                      have zz := Blk.lt hR8
                      go_wp2_with fail
                      have E := ((((hR8.set 0 (.int .i64 3)).set 1 (.int .i64 t.2.1)).set 2 (.int .i64 u.2.1)).set 3 (strV [])).set 4 (.slice none 0 0)
                      obtain ⟨⟨e0', e1', e2', e3', e4'⟩, _⟩ := set_cells5 (a0 := .int .i64 3) (a1 := .int .i64 t.2.1) (a2 := .int .i64 u.2.1) (a3 := strV []) (a4 := .slice none 0 0) E
                      exact bodyPost_ret (v := exprA (.mk 3 t.2.1 u.2.1 [] []) none 0) (by simp [results, Tryd.results124, e0', e1', e2', e3', e4', go_sem, exprA, Expr.kind, Expr.a, Expr.b, Expr.name, Expr.kids]) rfl (fin_ok hlt hP8 hG8 O (fun k hk => hk) (by omega) _ _ _ _ _)

/-- an end that panics -/
theorem thing_deep (l : List Tok) (en : Int) : SubAll 124 41 l en (thingP l en 0) := by
  intro i nd w B pb tv h hnd
  have hbA : Below w.heap.size w (w.alloc (.cells #[.int .i64 0, .int .i64 0, .int .i64 0, strV [], .slice none 0 0] 48)) := (Below.refl _ _).alloc (Nat.le_refl _) _
  have hP0 := h.below hbA (Nat.le_refl _)
  have hg0 : w.grownBy (w.alloc (.cells #[.int .i64 0, .int .i64 0, .int .i64 0, strV [], .slice none 0 0] 48)) (some pb) := grown_of _ hbA
  rw [thingP]
  go_enter Tryd.func124, Tryd.ntmps124
  go_wp2_with fail
  refine (fail_any l en i nd 4 _ B pb tv hP0).mono ?_
  rintro e8 w8 ⟨rfl, hb8⟩
  go_wp2_with fail
  exact ⟨rfl, grown_below hg0 hb8, rfl⟩
theorem thing_any (l : List Tok) (en : Int) (hl : l.length ≤ 1000000) (hnm : ∀ t ∈ l, t.2.2.2.length ≤ 9223372036854775807) (d : Nat) (hd : d ≤ 40) : SubAll 124 (41 - d) l en (thingP l en d) := by
  induction d with
  | zero => exact thing_deep l en
  | succ d ih =>
    have ih := ih (by omega)
    have hf := factor_any (41 - d) l en hl _ (thing_on d) ih
    have ht : SubAll 111 (41 - d) l en (termP l en (thingP l en d)) := term_any (41 - d) l en hl _ (factor_on (thing_on d)) hf
    have he : SubAll 95 (41 - d) l en (exprP l en (thingP l en d)) := expr_any (41 - d) l en hl _ (term_on (thing_on d)) ht
    have e1 : (41 - ((d + 1 : Nat) : Int)) + 1 = 41 - d := by omega
    exact thing_step (41 - ((d + 1 : Nat) : Int)) (by omega) (by omega) d l en hl hnm (by rw [e1]; exact he) (weekly_any _ (by omega) (by omega) l en hl _ (by rw [e1]; exact hf)) (dates_any _ (by omega) (by omega) l en hl _ (by rw [e1]; exact hf))
theorem expr_all1 (l : List Tok) (en : Int) (hl : l.length ≤ 1000000) (hnm : ∀ t ∈ l, t.2.2.2.length ≤ 9223372036854775807) : SubAll 95 1 l en (exprP l en (thingP l en 40)) :=
  expr_any 1 l en hl _ (term_on (thing_on 40)) (term_any 1 l en hl _ (factor_on (thing_on 40)) (factor_any 1 l en hl _ (thing_on 40) (thing_any l en hl hnm 40 (Nat.le_refl _))))

end Ru
end Go.Proofs.YtbadplbdgpbdaaaDoor
