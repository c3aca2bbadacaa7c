/- The document's walk over tokens, its small functions: (*slotref4.Walk).good, next, stop, on, need, get, made. The document's walk over tokens: (*slotref4.Walk).Factor. The document's walk over tokens: (*slotref4.Walk).Sum. -/
import Derived.Test.YtfhedopfjgjffaaPrT
import Derived.Test.YtfhedopfjgjffaaThg
namespace Go.Proofs.Ytfhedopfjgjffaa
open Go.RowKit
namespace Ru
open Lx
open Sl (strV Reads)

/-- the document's walk -/
def WkB (w : World) (pb : Nat) (tv : Value) (en : Int) (s : St) : Prop := Blk w pb 86 #[tv, .int .i64 s.i, .int .i64 en, .int .i64 s.nd, .int .i64 s.err, .int .i64 s.po]
/-- what the walk of one of its functions leans on -/
structure WkAt (w : World) (B pb : Nat) (tv : Value) (l : List Tok) (en : Int) (s : St) : Prop where
  blk : WkB w pb tv en s
  toks : TokR w B tv l
  le : B ≤ pb
  i : s.i ≤ l.length
  n : s.nd ≤ 601
theorem WkAt.lt {w : World} {B pb : Nat} {tv : Value} {l : List Tok} {en : Int} {s : St} (h : WkAt w B pb tv l en s) : pb < w.heap.size := Blk.lt h.blk
theorem WkAt.below {w w' : World} {B pb : Nat} {tv : Value} {l : List Tok} {en : Int} {s : St} (h : WkAt w B pb tv l en s) {B' : Nat} (hb : Below B' w w') (hB : w.heap.size ≤ B') : WkAt w' B pb tv l en s := by
  have h1 := h.lt
  have h2 := h.le
  exact ⟨Blk.below h.blk hb (by omega), h.toks.below hb (by omega), h.le, h.i, h.n⟩
theorem WkAt.go {w w' : World} {B pb : Nat} {tv : Value} {l : List Tok} {en : Int} {s s' : St} (h : WkAt w B pb tv l en s) (hg : w.grownBy w' (some pb)) (hb : WkB w' pb tv en s') (hj : s'.i ≤ l.length) (hn : s'.nd ≤ 601) : WkAt w' B pb tv l en s' :=
  ⟨hb, h.toks.grown hg h.le (by have := h.lt; have := h.le; omega), h.le, hj, hn⟩
theorem WkAt.far {w : World} {B pb : Nat} {tv : Value} {l : List Tok} {en : Int} {s : St} (h : WkAt w B pb tv l en s) {g : Nat} (hg : pb < g) (q : Nat) (u : Value) : WkAt (w.setCell ⟨g, q, none⟩ u) B pb tv l en s :=
  ⟨Blk.far h.blk (p := ⟨g, q, none⟩) (by show pb ≠ g; omega) u, h.toks.below ((Below.refl B w).setCell (p := ⟨g, q, none⟩) (by have := h.le; show B ≤ g; omega) u) (Nat.le_refl _), h.le, h.i, h.n⟩
theorem grown_set {w : World} {pb : Nat} (q : Nat) (u : Value) : w.grownBy (w.setCell ⟨pb, q, none⟩ u) (some pb) := ⟨rfl, rfl, rfl, by simp, fun k hk hne => Below.heap_setCell w ⟨pb, q, none⟩ _ k (fun e => hne (by rw [e]))⟩
/-- a token on -/
theorem WkAt.step {w : World} {B pb : Nat} {tv : Value} {l : List Tok} {en : Int} {s : St} (h : WkAt w B pb tv l en s) (hj : s.i < l.length) : WkAt (w.setCell ⟨pb, 1, none⟩ (.int .i64 ((s.i : Int) + 1))) B pb tv l en (incS s) ∧ w.grownBy (w.setCell ⟨pb, 1, none⟩ (.int .i64 ((s.i : Int) + 1))) (some pb) :=
  ⟨h.go (s' := incS s) (grown_set 1 _) (Blk.set h.blk 1 (.int .i64 ((s.i : Int) + 1))) (by show s.i + 1 ≤ _; omega) h.n, grown_set 1 _⟩
/-- the cells of the walk -/
theorem WkAt.cells {w : World} {B pb : Nat} {tv : Value} {l : List Tok} {en : Int} {s : St} (h : WkAt w B pb tv l en s) : (w.cell? ⟨pb, 0, none⟩ = some tv ∧ w.cell? ⟨pb, 1, none⟩ = some (.int .i64 s.i) ∧ w.cell? ⟨pb, 2, none⟩ = some (.int .i64 en) ∧ w.cell? ⟨pb, 3, none⟩ = some (.int .i64 s.nd) ∧ w.cell? ⟨pb, 4, none⟩ = some (.int .i64 s.err) ∧ w.cell? ⟨pb, 5, none⟩ = some (.int .i64 s.po)) ∧
    w.frozen? ⟨pb, 1, none⟩ = false ∧ w.frozen? ⟨pb, 3, none⟩ = false ∧ w.frozen? ⟨pb, 4, none⟩ = false ∧ w.frozen? ⟨pb, 5, none⟩ = false :=
  ⟨⟨Blk.cell h.blk 0, Blk.cell h.blk 1, Blk.cell h.blk 2, Blk.cell h.blk 3, Blk.cell h.blk 4, Blk.cell h.blk 5⟩, Blk.frozen h.blk 1, Blk.frozen h.blk 3, Blk.frozen h.blk 4, Blk.frozen h.blk 5⟩
attribute [local go_sem] bytes_list
@[go_sem] theorem run_tokP (a b c : Int) (s : List UInt8) (w : World) : (Instr.field 75 (.agg #[.int .i64 a, .int .i64 b, .int .i64 c, strV s]) 2).run Try.prog w = .ok (.int .i64 c) w := by kernel_rfl

set_option maxRecDepth 100000 in
set_option maxHeartbeats 2000000 in
theorem Rgood_any (l : List Tok) (en : Int) (s : St) (w : World) (B pb : Nat) (tv : Value) (h : WkAt w B pb tv l en s) :
    Calls Try.prog 42 #[.pointer (some ⟨pb, 0, none⟩)] w fun e w' => e = .returned (.bool (goodS s)) ∧ w' = w := by
  obtain ⟨⟨c0, c1, c2, c3, c4, c5⟩, f1, f3, f4, f5⟩ := h.cells
  go_enter Try.func42, Try.ntmps42
  go_wp2
  go_ret
  exact ⟨rfl, rfl⟩

set_option maxRecDepth 100000 in
set_option maxHeartbeats 4000000 in
theorem Rnext_any (l : List Tok) (en : Int) (s : St) (w : World) (B pb : Nat) (tv : Value) (h : WkAt w B pb tv l en s) :
    Calls Try.prog 45 #[.pointer (some ⟨pb, 0, none⟩)] w fun e w' => e = .returned (tokA (nextS l en s)) ∧ Below w.heap.size w w' := by
  obtain ⟨⟨c0, c1, c2, c3, c4, c5⟩, f1, f3, f4, f5⟩ := h.cells
  have hlt := h.lt
  have hle := h.le
  have B0 := Blk.new w 75 #[.int .i64 0, .int .i64 0, .int .i64 0, strV []]
  have hh := h
  obtain ⟨A, cap, rfl, hl63, hc⟩ := h.toks
  by_cases hi : s.i < l.length
  · obtain ⟨t, ht⟩ : ∃ t, l[s.i]? = some t := ⟨_, List.getElem?_eq_getElem hi⟩
    obtain ⟨b, o, rfl, hbl, k0, k1, k2, k3⟩ := hc s.i t ht
    have hres : nextS l en s = t := by unfold nextS; rw [ht]; rfl
    have g1 : decide ((s.i : Int) < (l.length : Int)) = true := by simp; omega
    have g1' : decide (s.i < l.length) = true := by simp; omega
    have zb : b < w.heap.size := by omega
    replace hc := Lib.hid hc
    obtain ⟨tk, tn, ta, tt⟩ := t
    rw [hres]
    unfold tokA
    simp only at k0 k1 k2 k3 ⊢
    clear ht hres
    go_enter Try.func45, Try.ntmps45
    go_wp2_with fail
    refine wp_region_below (w.heap.size + 1) _ (Below.refl _ _) (by kernel_rfl) (by kernel_rfl) ?_
    repeat (go_big_quiet_step ((fail)))
    refine wpQuiet_nil ?_
    rintro _ ⟨n1, rfl⟩
    have hb1 : Below w.heap.size w n1.w := ((Below.refl _ _).alloc (Nat.le_refl _) _).trans (n1.below.mono (by omega))
    have z1 := n1.size
    simp at z1
    have B1 := B0.after n1 (by simp)
    have s0 : n1.w.cell? ⟨w.heap.size, 0, none⟩ = some (.int .i64 0) := B1.cell 0
    have s1 : n1.w.cell? ⟨w.heap.size, 1, none⟩ = some (.int .i64 0) := B1.cell 1
    have s2 : n1.w.cell? ⟨w.heap.size, 2, none⟩ = some (.int .i64 0) := B1.cell 2
    have s3 : n1.w.cell? ⟨w.heap.size, 3, none⟩ = some (strV []) := B1.cell 3
    go_wp2_with fail
    refine wp_region_below_tail 10 (n1.w.heap.size) _ (Below.refl _ _) (by kernel_rfl) (by kernel_rfl) ?_
    simp only [List.take_succ_cons, List.take_zero, List.drop_succ_cons, List.drop_zero]
    iterate 10 (go_big_quiet_step ((fail)))
    refine wpQuiet_nil ?_
    rintro _ ⟨n2, rfl⟩
    change wpList _ _ _ _ _ _
    have B2 := B1.after n2 (by omega)
    have s0 : n2.w.cell? ⟨w.heap.size, 0, none⟩ = some (.int .i64 0) := B2.cell 0
    have s1 : n2.w.cell? ⟨w.heap.size, 1, none⟩ = some (.int .i64 0) := B2.cell 1
    have s2 : n2.w.cell? ⟨w.heap.size, 2, none⟩ = some (.int .i64 0) := B2.cell 2
    have s3 : n2.w.cell? ⟨w.heap.size, 3, none⟩ = some (strV []) := B2.cell 3
    have t0 : n2.w.frozen? ⟨w.heap.size, 0, none⟩ = false := B2.frozen 0
    have t1 : n2.w.frozen? ⟨w.heap.size, 1, none⟩ = false := B2.frozen 1
    have t2 : n2.w.frozen? ⟨w.heap.size, 2, none⟩ = false := B2.frozen 2
    have t3 : n2.w.frozen? ⟨w.heap.size, 3, none⟩ = false := B2.frozen 3
    have z2 := n2.size
    go_wp2_with fail
    have E := (((B2.set 0 (.int .i64 tk)).set 1 (.int .i64 tn)).set 2 (.int .i64 ta)).set 3 (strV tt)
    have e0 := (E.cell 0).trans (show _ = some (Value.int .i64 tk) from rfl)
    have e1 := (E.cell 1).trans (show _ = some (Value.int .i64 tn) from rfl)
    have e2 := (E.cell 2).trans (show _ = some (Value.int .i64 ta) from rfl)
    have e3 := (E.cell 3).trans (show _ = some (strV tt) from rfl)
    have hb2 : Below w.heap.size w n2.w := hb1.trans (n2.below.mono (by omega))
    exact bodyPost_ret (v := .agg #[.int .i64 tk, .int .i64 tn, .int .i64 ta, strV tt]) (by simp [results, Try.results45, e0, e1, e2, e3, go_sem]) rfl ⟨rfl, (((hb2.setCell (by show _ ≤ w.heap.size; omega) _).setCell (by show _ ≤ w.heap.size; omega) _).setCell (by show _ ≤ w.heap.size; omega) _).setCell (by show _ ≤ w.heap.size; omega) _⟩
  · have hres := Lib.hid (show tokA (nextS l en s) = .agg #[.int .i64 0, .int .i64 0, .int .i64 en, strV []] by unfold nextS; rw [List.getElem?_eq_none (by omega)]; rfl)
    have g1 : decide ((s.i : Int) < (l.length : Int)) = false := by simp; omega
    have g1' : decide (s.i < l.length) = false := by simp; omega
    replace hc := Lib.hid hc
    go_enter Try.func45, Try.ntmps45
    go_wp2_with fail
    refine wp_region_below (w.heap.size + 1) _ (Below.refl _ _) (by kernel_rfl) (by kernel_rfl) ?_
    repeat (go_big_quiet_step ((fail)))
    refine wpQuiet_nil ?_
    rintro _ ⟨n1, rfl⟩
    have hb1 : Below w.heap.size w n1.w := ((Below.refl _ _).alloc (Nat.le_refl _) _).trans (n1.below.mono (by omega))
    have z1 := n1.size
    simp at z1
    have B2 := B0.after n1 (by simp)
    have s0 : n1.w.cell? ⟨w.heap.size, 0, none⟩ = some (.int .i64 0) := B2.cell 0
    have s1 : n1.w.cell? ⟨w.heap.size, 1, none⟩ = some (.int .i64 0) := B2.cell 1
    have s2 : n1.w.cell? ⟨w.heap.size, 2, none⟩ = some (.int .i64 0) := B2.cell 2
    have s3 : n1.w.cell? ⟨w.heap.size, 3, none⟩ = some (strV []) := B2.cell 3
    have t0 : n1.w.frozen? ⟨w.heap.size, 0, none⟩ = false := B2.frozen 0
    have t1 : n1.w.frozen? ⟨w.heap.size, 1, none⟩ = false := B2.frozen 1
    have t2 : n1.w.frozen? ⟨w.heap.size, 2, none⟩ = false := B2.frozen 2
    have t3 : n1.w.frozen? ⟨w.heap.size, 3, none⟩ = false := B2.frozen 3
    go_wp2_with fail
    have E := (((B2.set 0 (.int .i64 0)).set 1 (.int .i64 0)).set 2 (.int .i64 en)).set 3 (strV [])
    have e0 := (E.cell 0).trans (show _ = some (Value.int .i64 0) from rfl)
    have e1 := (E.cell 1).trans (show _ = some (Value.int .i64 0) from rfl)
    have e2 := (E.cell 2).trans (show _ = some (Value.int .i64 en) from rfl)
    have e3 := (E.cell 3).trans (show _ = some (strV []) from rfl)
    exact bodyPost_ret (v := .agg #[.int .i64 0, .int .i64 0, .int .i64 en, strV []]) (by simp [results, Try.results45, e0, e1, e2, e3, go_sem]) rfl ⟨by rw [hres.out], (((hb1.setCell (by show _ ≤ w.heap.size; omega) _).setCell (by show _ ≤ w.heap.size; omega) _).setCell (by show _ ≤ w.heap.size; omega) _).setCell (by show _ ≤ w.heap.size; omega) _⟩

set_option maxRecDepth 100000 in
set_option maxHeartbeats 2000000 in
theorem Rstop_any (l : List Tok) (en : Int) (s : St) (err po : Int) (w : World) (B pb : Nat) (tv : Value) (h : WkAt w B pb tv l en s) :
    Calls Try.prog 44 #[.pointer (some ⟨pb, 0, none⟩), .int .i64 err, .int .i64 po] w fun e w' => e = .returned (.tuple #[]) ∧ w.grownBy w' (some pb) ∧ WkAt w' B pb tv l en (stopS err po s) := by
  obtain ⟨⟨c0, c1, c2, c3, c4, c5⟩, f1, f3, f4, f5⟩ := h.cells
  have hlt := h.lt
  have hG := Lib.hid (Rgood_any l en s w B pb tv h)
  unfold stopS
  cases hgd : goodS s with
  | false =>
    rw [hgd] at hG
    rw [if_neg (by decide)]
    go_enter Try.func44, Try.ntmps44
    go_wp2_with (go_at_call 42; refine hG.out.mono ?_; rintro e w1 ⟨rfl, rfl⟩)
    go_end0
    exact ⟨rfl, grown_of _ (Below.refl _ _), h⟩
  | true =>
    rw [hgd] at hG
    rw [if_pos rfl]
    go_enter Try.func44, Try.ntmps44
    go_wp2_with (go_at_call 42; refine hG.out.mono ?_; rintro e w1 ⟨rfl, rfl⟩)
    go_end0
    have hg := grown_grown (grown_set (w := w1) (pb := pb) 4 (.int .i64 err)) (grown_set (pb := pb) 5 (.int .i64 po))
    exact ⟨rfl, hg, h.go hg (Blk.set (Blk.set h.blk 4 _) 5 _) h.i h.n⟩

set_option maxRecDepth 100000 in
set_option maxHeartbeats 2000000 in
theorem Ron_any (l : List Tok) (en : Int) (s : St) (kind : Int) (text : List UInt8) (w : World) (B pb : Nat) (tv : Value) (h : WkAt w B pb tv l en s) :
    Calls Try.prog 43 #[.pointer (some ⟨pb, 0, none⟩), .int .i64 kind, strV text] w fun e w' => e = .returned (.bool (onS l en kind text s)) ∧ Below w.heap.size w w' := by
  have hlt := h.lt
  have hNx := Lib.hid (Rnext_any l en s w B pb tv h)
  unfold onS
  obtain ⟨t, ht⟩ : ∃ t, nextS l en s = t := ⟨_, rfl⟩
  rw [ht] at hNx ⊢
  obtain ⟨tk, tn, ta, tt⟩ := t
  unfold tokA at hNx
  show Calls _ _ _ _ fun e w' => e = .returned (.bool (goodS s && tk == kind && tt == text)) ∧ _
  have hG := Lib.hid (fun (W : World) (hb : Below w.heap.size w W) => Rgood_any l en s W B pb tv (h.below hb (Nat.le_refl _)))
  cases hgd : goodS s with
  | false =>
    rw [hgd] at hG
    go_enter Try.func43, Try.ntmps43
    go_wp2_with (first
      | (go_at_call 45; refine hNx.out.mono ?_; rintro e w1 ⟨rfl, hb1⟩; have z1 := hb1.size; have hbA := hb1.alloc z1 (.cells #[.int .i64 tk, .int .i64 tn, .int .i64 ta, strV tt] 75))
      | (go_at_call 42; refine (hG.out _ hbA).mono ?_; rintro e w2 ⟨rfl, rfl⟩))
    go_ret
    exact ⟨rfl, hbA⟩
  | true =>
    rw [hgd] at hG
    cases hk : (tk == kind) with
    | false =>
      go_enter Try.func43, Try.ntmps43
      go_wp2_with (first
        | (go_at_call 45; refine hNx.out.mono ?_; rintro e w1 ⟨rfl, hb1⟩; have z1 := hb1.size; have hbA := hb1.alloc z1 (.cells #[.int .i64 tk, .int .i64 tn, .int .i64 ta, strV tt] 75))
        | (go_at_call 42; refine (hG.out _ hbA).mono ?_; rintro e w2 ⟨rfl, rfl⟩))
      go_ret
      exact ⟨rfl, hbA⟩
    | true =>
      go_enter Try.func43, Try.ntmps43
      go_wp2_with (first
        | (go_at_call 45; refine hNx.out.mono ?_; rintro e w1 ⟨rfl, hb1⟩; have z1 := hb1.size; have hbA := hb1.alloc z1 (.cells #[.int .i64 tk, .int .i64 tn, .int .i64 ta, strV tt] 75))
        | (go_at_call 42; refine (hG.out _ hbA).mono ?_; rintro e w2 ⟨rfl, rfl⟩))
      go_ret
      exact ⟨rfl, hbA⟩

set_option maxRecDepth 100000 in
set_option maxHeartbeats 2000000 in
theorem Rneed_any (l : List Tok) (en : Int) (s : St) (text : List UInt8) (w : World) (B pb : Nat) (tv : Value) (h : WkAt w B pb tv l en s) (hl : l.length ≤ 1000000) :
    Calls Try.prog 47 #[.pointer (some ⟨pb, 0, none⟩), strV text] w fun e w' => e = .returned (.tuple #[]) ∧ w.grownBy w' (some pb) ∧ WkAt w' B pb tv l en (needS l en text s) := by
  have hlt := h.lt
  have hO := Lib.hid (Ron_any l en s 3 text w B pb tv h)
  unfold needS
  cases ho : onS l en 3 text s with
  | true =>
    rw [ho] at hO
    rw [if_pos rfl]
    have hi := (on_lt (by decide) ho).1
    go_enter Try.func47, Try.ntmps47
    go_wp2_with (go_at_call 43; refine hO.out.mono ?_; rintro e w1 ⟨rfl, hb1⟩; have h1 := h.below hb1 (Nat.le_refl _); have c1 : w1.cell? ⟨pb, 1, none⟩ = some (.int .i64 s.i) := Blk.cell h1.blk 1; have f1 : w1.frozen? ⟨pb, 1, none⟩ = false := Blk.frozen h1.blk 1; have z1 := hb1.size)
    go_end0
    have hst := h1.step hi
    exact ⟨rfl, grown_grown (grown_of _ hb1) hst.2, hst.1⟩
  | false =>
    rw [ho] at hO
    rw [if_neg (by decide)]
    have hNx := Lib.hid (fun (W : World) (hb : Below w.heap.size w W) => Rnext_any l en s W B pb tv (h.below hb (Nat.le_refl _)))
    obtain ⟨t, ht⟩ : ∃ t, nextS l en s = t := ⟨_, rfl⟩
    rw [ht] at hNx ⊢
    obtain ⟨tk, tn, ta, tt⟩ := t
    unfold tokA at hNx
    have hS := Lib.hid (fun (W : World) (hb : Below w.heap.size w W) => Rstop_any l en s 2 ta W B pb tv (h.below hb (Nat.le_refl _)))
    go_enter Try.func47, Try.ntmps47
    go_wp2_with (first
      | (go_at_call 43; refine hO.out.mono ?_; rintro e w1 ⟨rfl, hb1⟩)
      | (go_at_call 45; refine (hNx.out _ hb1).mono ?_; rintro e w2 ⟨rfl, hb2⟩; have hb12 := hb1.trans (hb2.mono hb1.size))
      | (go_at_call 44; refine (hS.out _ hb12).mono ?_; rintro e w3 ⟨rfl, hg3, h3⟩))
    exact bodyPost_ret (v := .tuple #[]) (by simp [results, Try.results47]) rfl ⟨rfl, grown_grown (grown_of _ hb12) hg3, h3⟩

/-- a token in a block of one's own -/
abbrev tokB (t : Tok) : Array Value := #[.int .i64 t.1, .int .i64 t.2.1, .int .i64 t.2.2.1, strV t.2.2.2]
theorem tok_cells {w : World} {g : Nat} {T : TypeId} {t : Tok} (h : Blk w g T (tokB t)) : (w.cell? ⟨g, 0, none⟩ = some (.int .i64 t.1) ∧ w.cell? ⟨g, 1, none⟩ = some (.int .i64 t.2.1) ∧ w.cell? ⟨g, 2, none⟩ = some (.int .i64 t.2.2.1) ∧ w.cell? ⟨g, 3, none⟩ = some (strV t.2.2.2)) ∧ (w.frozen? ⟨g, 0, none⟩ = false ∧ w.frozen? ⟨g, 1, none⟩ = false ∧ w.frozen? ⟨g, 2, none⟩ = false ∧ w.frozen? ⟨g, 3, none⟩ = false) :=
  ⟨⟨h.cell 0, h.cell 1, h.cell 2, h.cell 3⟩, h.frozen 0, h.frozen 1, h.frozen 2, h.frozen 3⟩

/-- a token that is handed back -/
theorem get_fin {w w6 : World} {B pb : Nat} {tv : Value} {l : List Tok} {en : Int} {s' : St} {tk tn ta : Int} {tt : List UInt8} (hlt : pb < w.heap.size) (hg : w.grownBy w6 (some pb)) (h6 : WkAt w6 B pb tv l en s') {a0 a1 a2 a3 : Value} (hB : Blk w6 w.heap.size 75 #[a0, a1, a2, a3]) {W : World}
    (hW : W = (((w6.setCell ⟨w.heap.size, 0, none⟩ (.int .i64 tk)).setCell ⟨w.heap.size, 1, none⟩ (.int .i64 tn)).setCell ⟨w.heap.size, 2, none⟩ (.int .i64 ta)).setCell ⟨w.heap.size, 3, none⟩ (strV tt)) :
    (W.cell? ⟨w.heap.size, 0, none⟩ = some (.int .i64 tk) ∧ W.cell? ⟨w.heap.size, 1, none⟩ = some (.int .i64 tn) ∧ W.cell? ⟨w.heap.size, 2, none⟩ = some (.int .i64 ta) ∧ W.cell? ⟨w.heap.size, 3, none⟩ = some (strV tt)) ∧ w.grownBy W (some pb) ∧ WkAt W B pb tv l en s' := by
  subst hW
  have E := (((hB.set 0 (.int .i64 tk)).set 1 (.int .i64 tn)).set 2 (.int .i64 ta)).set 3 (strV tt)
  exact ⟨⟨E.cell 0, E.cell 1, E.cell 2, E.cell 3⟩, (((hg.far (Nat.le_refl _) 0 _).far (Nat.le_refl _) 1 _).far (Nat.le_refl _) 2 _).far (Nat.le_refl _) 3 _, (((h6.far hlt 0 _).far hlt 1 _).far hlt 2 _).far hlt 3 _⟩

set_option maxRecDepth 100000 in
set_option maxHeartbeats 2000000 in
theorem Rget_any (l : List Tok) (en : Int) (s : St) (kind : Int) (hk : kind ≠ 0) (w : World) (B pb : Nat) (tv : Value) (h : WkAt w B pb tv l en s) (hl : l.length ≤ 1000000) :
    Calls Try.prog 46 #[.pointer (some ⟨pb, 0, none⟩), .int .i64 kind] w fun e w' => e = .returned (tokA (nextS l en s)) ∧ w.grownBy w' (some pb) ∧ WkAt w' B pb tv l en (getS l en kind s) := by
  have hlt := h.lt
  have hbA := (Below.refl w.heap.size w).alloc (Nat.le_refl _) (.cells #[.int .i64 0, .int .i64 0, .int .i64 0, strV []] 75)
  have B0 := Blk.new w 75 #[.int .i64 0, .int .i64 0, .int .i64 0, strV []]
  have hNx := Lib.hid (Rnext_any l en s _ B pb tv (h.below hbA (Nat.le_refl _)))
  have hlt0 := fun hx => next_lt (l := l) (en := en) (s := s) hk hx
  unfold getS
  obtain ⟨t, ht⟩ : ∃ t, nextS l en s = t := ⟨_, rfl⟩
  rw [ht] at hNx hlt0 ⊢
  have hlt1 : t.1 = kind → s.i < l.length := hlt0
  clear hlt0 ht
  have e1 : tokA t = .agg (tokB t) := rfl
  rw [e1] at hNx ⊢
  have hG := Lib.hid (fun (W : World) (hb : Below w.heap.size w W) => Rgood_any l en s W B pb tv (h.below hb (Nat.le_refl _)))
  have hS := Lib.hid (fun (W : World) (hb : Below w.heap.size w W) => Rstop_any l en s 2 t.2.2.1 W B pb tv (h.below hb (Nat.le_refl _)))
  obtain ⟨tk, tn, ta, tt⟩ := t
  simp only [tokB] at hNx hS hlt1 ⊢
  cases hbad : (!goodS s || tk != kind) with
  | true =>
    rw [if_pos rfl]
    rcases (show goodS s = false ∨ (goodS s = true ∧ (tk != kind) = true) by cases hgd : goodS s with | false => exact .inl rfl | true => rw [hgd] at hbad; exact .inr ⟨rfl, by simpa using hbad⟩) with hgd | ⟨hgd, hkk⟩ <;> rw [hgd] at hG
    all_goals
      clear hbad
      go_enter Try.func46, Try.ntmps46
      go_wp2_with fail
      refine hNx.out.mono ?_
      rintro e w1 ⟨rfl, hb1⟩
      have z1 := hb1.size
      simp at z1
      have zw1 : w.heap.size ≤ w1.heap.size := by omega
      have hb1 : Below w.heap.size w w1 := hbA.trans (hb1.mono (by simp))
      have hb2 := hb1.alloc zw1 (.cells #[.int .i64 tk, .int .i64 tn, .int .i64 ta, strV tt] 75)
      go_wp2_with fail
      refine (hG.out _ hb2).mono ?_
      rintro e w2 ⟨rfl, rfl⟩
      go_wp2_with fail
      refine (hS.out _ hb2).mono ?_
      rintro e w3 ⟨rfl, hg3, h3⟩
      have B3 : Blk w3 w1.heap.size 75 (tokB (tk, tn, ta, tt)) := (hg3.block w1.heap.size (by simp) (by intro e; injection e with e; omega)).trans (Blk.new w1 _ _)
      have R3 : Blk w3 w.heap.size 75 #[.int .i64 0, .int .i64 0, .int .i64 0, strV []] := (hg3.block w.heap.size (by simp; omega) (by intro e; injection e with e; omega)).trans (Blk.below (Blk.below B0 (by assumption) (by simp)) ((Below.refl _ _).alloc (Nat.le_refl _) _) (by omega))
      obtain ⟨⟨s0, s1, s2, s3⟩, t0, t1, t2, t3⟩ := tok_cells B3
      obtain ⟨⟨r0, r1, r2, r3⟩, q0, q1, q2, q3⟩ := tok_cells (t := (0, 0, 0, [])) R3
      have z3 := hg3.size
      simp at z3
      go_wp2_with fail
      obtain ⟨⟨e0, e1, e2, e3⟩, hg, hW⟩ := get_fin hlt (tk := tk) (tn := tn) (ta := ta) (tt := tt) (grown_grown (grown_of _ hb2) hg3) h3 R3 rfl
      exact bodyPost_ret (v := .agg #[.int .i64 tk, .int .i64 tn, .int .i64 ta, strV tt]) (by simp [results, Try.results46, e0, e1, e2, e3, go_sem]) rfl ⟨rfl, hg, hW⟩
  | false =>
    have hgd : goodS s = true := by cases hgd : goodS s with | false => rw [hgd] at hbad; cases hbad | true => rfl
    have hkk : (tk != kind) = false := by rw [hgd] at hbad; simpa using hbad
    have hi := hlt1 (by simpa using hkk)
    rw [if_neg (by decide)]
    rw [hgd] at hG
    clear hbad
    go_enter Try.func46, Try.ntmps46
    go_wp2_with fail
    refine hNx.out.mono ?_
    rintro e w1 ⟨rfl, hb1⟩
    have z1 := hb1.size
    simp at z1
    have zw1 : w.heap.size ≤ w1.heap.size := by omega
    have R1 := Blk.below B0 hb1 (by simp)
    have hb1 : Below w.heap.size w w1 := hbA.trans (hb1.mono (by simp))
    have hb2 := hb1.alloc zw1 (.cells #[.int .i64 tk, .int .i64 tn, .int .i64 ta, strV tt] 75)
    have h2 := h.below hb2 (Nat.le_refl _)
    have R2 := Blk.below R1 ((Below.refl w1.heap.size w1).alloc (Nat.le_refl _) (.cells #[.int .i64 tk, .int .i64 tn, .int .i64 ta, strV tt] 75)) (by omega)
    obtain ⟨⟨c0, c1, c2, c3, c4, c5⟩, f1, f3, f4, f5⟩ := h2.cells
    have B2 := Blk.new w1 75 (tokB (tk, tn, ta, tt))
    obtain ⟨⟨s0, s1, s2, s3⟩, t0, t1, t2, t3⟩ := tok_cells B2
    go_wp2_with fail
    refine (hG.out _ hb2).mono ?_
    rintro e w2 ⟨rfl, rfl⟩
    obtain ⟨⟨r0, r1, r2, r3⟩, q0, q1, q2, q3⟩ := tok_cells (t := (0, 0, 0, [])) R2
    go_wp2_with fail
    have hst := h2.step hi
    have R3 := Blk.far R2 (p := ⟨pb, 1, none⟩) (by show w.heap.size ≠ pb; omega) (.int .i64 ((s.i : Int) + 1))
    obtain ⟨⟨e0, e1, e2, e3⟩, hg, hW⟩ := get_fin hlt (tk := tk) (tn := tn) (ta := ta) (tt := tt) (grown_grown (grown_of _ hb2) hst.2) hst.1 R3 rfl
    exact bodyPost_ret (v := .agg #[.int .i64 tk, .int .i64 tn, .int .i64 ta, strV tt]) (by simp [results, Try.results46, e0, e1, e2, e3, go_sem]) rfl ⟨rfl, hg, hW⟩

theorem made_at {w : World} {B pb : Nat} {tv : Value} {l : List Tok} {en : Int} {s : St} (h : WkAt w B pb tv l en s) (hn : s.nd ≤ 600) : WkAt (w.setCell ⟨pb, 3, none⟩ (.int .i64 ((s.nd : Int) + 1))) B pb tv l en ⟨s.i, s.nd + 1, s.err, s.po⟩ :=
  h.go (s' := ⟨s.i, s.nd + 1, s.err, s.po⟩) (grown_set 3 _) (Blk.set h.blk 3 (.int .i64 ((s.nd : Int) + 1))) h.i (by show s.nd + 1 ≤ _; omega)
/-- an expression that is handed back -/
theorem made_fin {w w6 : World} {B pb g : Nat} {tv : Value} {l : List Tok} {en : Int} {s' : St} {k x y : Int} {nm : List UInt8} {A : Option Addr} {n cap : Nat} (hlt : pb < w.heap.size) (hz : w.heap.size ≤ g) (hg : w.grownBy w6 (some pb)) (h6 : WkAt w6 B pb tv l en s') {a0 a1 a2 a3 a4 : Value} (hB : Blk w6 g 38 #[a0, a1, a2, a3, a4]) {W : World}
    (hW : W = ((((w6.setCell ⟨g, 0, none⟩ (.int .i64 k)).setCell ⟨g, 1, none⟩ (.int .i64 x)).setCell ⟨g, 2, none⟩ (.int .i64 y)).setCell ⟨g, 3, none⟩ (strV nm)).setCell ⟨g, 4, none⟩ (.slice A n cap)) :
    (W.cell? ⟨g, 0, none⟩ = some (.int .i64 k) ∧ W.cell? ⟨g, 1, none⟩ = some (.int .i64 x) ∧ W.cell? ⟨g, 2, none⟩ = some (.int .i64 y) ∧ W.cell? ⟨g, 3, none⟩ = some (strV nm) ∧ W.cell? ⟨g, 4, none⟩ = some (.slice A n cap)) ∧ w.grownBy W (some pb) ∧ WkAt W B pb tv l en s' := by
  subst hW
  have E := ((((hB.set 0 (.int .i64 k)).set 1 (.int .i64 x)).set 2 (.int .i64 y)).set 3 (strV nm)).set 4 (.slice A n cap)
  have hpg : pb < g := by omega
  exact ⟨⟨E.cell 0, E.cell 1, E.cell 2, E.cell 3, E.cell 4⟩, ((((hg.far hz 0 _).far hz 1 _).far hz 2 _).far hz 3 _).far hz 4 _, ((((h6.far hpg 0 _).far hpg 1 _).far hpg 2 _).far hpg 3 _).far hpg 4 _⟩
set_option maxRecDepth 100000 in
set_option maxHeartbeats 2000000 in
theorem Rmade_any (l : List Tok) (en : Int) (s : St) (k x y : Int) (nm : List UInt8) (A : Option Addr) (n cap : Nat) (w : World) (B pb : Nat) (tv : Value) (h : WkAt w B pb tv l en s) (hn : s.nd ≤ 600) :
    Calls Try.prog 75 #[.pointer (some ⟨pb, 0, none⟩), .agg #[.int .i64 k, .int .i64 x, .int .i64 y, strV nm, .slice A n cap]] w fun e w' => e = .returned (.agg #[.int .i64 k, .int .i64 x, .int .i64 y, strV nm, .slice A n cap]) ∧ w.grownBy w' (some pb) ∧ WkAt w' B pb tv l en (madeS l en s) := by
  have hlt := h.lt
  obtain ⟨⟨c0, c1, c2, c3, c4, c5⟩, f1, f3, f4, f5⟩ := h.cells
  have hst := made_at h hn
  obtain ⟨w0, hw0⟩ : ∃ w0, w0 = w.setCell ⟨pb, 3, none⟩ (.int .i64 ((s.nd : Int) + 1)) := ⟨_, rfl⟩
  have hz0 : w0.heap.size = w.heap.size := by rw [hw0]; simp
  have hg0 : w.grownBy w0 (some pb) := by rw [hw0]; exact grown_set 3 _
  rw [← hw0] at hst
  unfold madeS
  by_cases h6 : 600 < s.nd + 1
  · rw [if_pos h6]
    have hbA := ((Below.refl w.heap.size w0).alloc (by omega) (.cells #[.int .i64 k, .int .i64 x, .int .i64 y, strV nm, .slice A n cap] 38)).alloc (by simp; omega) (.cells #[.int .i64 0, .int .i64 0, .int .i64 0, strV [], .slice none 0 0] 38)
    have E0 := Blk.new w0 38 #[.int .i64 k, .int .i64 x, .int .i64 y, strV nm, .slice A n cap]
    have R0 := Blk.new (w0.alloc (.cells #[.int .i64 k, .int .i64 x, .int .i64 y, strV nm, .slice A n cap] 38)) 38 #[.int .i64 0, .int .i64 0, .int .i64 0, strV [], .slice none 0 0]
    have E1 := Blk.alloc E0 (.cells #[.int .i64 0, .int .i64 0, .int .i64 0, strV [], .slice none 0 0] 38)
    have hA := hst.below hbA (by omega)
    have g : decide ((600 : Int) < ((s.nd : Int) + 1)) = true := by simp; omega
    obtain ⟨t, ht⟩ : ∃ t, nextS l en s = t := ⟨_, rfl⟩
    have ht2 : nextS l en ⟨s.i, s.nd + 1, s.err, s.po⟩ = t := ht
    have hNx := Lib.hid (Rnext_any l en ⟨s.i, s.nd + 1, s.err, s.po⟩ _ B pb tv hA)
    rw [ht2] at hNx
    rw [ht]
    obtain ⟨tk, tn, ta, tt⟩ := t
    unfold tokA at hNx
    have hS := Lib.hid (fun (W : World) (hb : Below _ _ W) => Rstop_any l en ⟨s.i, s.nd + 1, s.err, s.po⟩ 4 ta W B pb tv (hA.below hb (Nat.le_refl _)))
    rw [hz0] at E0 E1
    replace R0 : Blk ((w0.alloc (.cells #[.int .i64 k, .int .i64 x, .int .i64 y, strV nm, .slice A n cap] 38)).alloc (.cells #[.int .i64 0, .int .i64 0, .int .i64 0, strV [], .slice none 0 0] 38)) (w.heap.size + 1) 38 #[.int .i64 0, .int .i64 0, .int .i64 0, strV [], .slice none 0 0] := by rw [← hz0]; simpa using R0
    rw [hw0] at hNx
    go_enter Try.func75, Try.ntmps75
    go_wp2_with fail
    refine hNx.out.mono ?_
    rintro e w1 ⟨rfl, hb1⟩
    rw [← hw0] at hb1
    go_wp2_with fail
    refine (hS.out _ hb1).mono ?_
    rintro e w2 ⟨rfl, hg2, h2⟩
    have hg := grown_grown (grown_below (grown_below hg0 (hbA.mono (by omega))) hb1) hg2
    have z1 := hb1.size
    simp at z1
    have z2 := hg2.size
    have k1 := (hg2.block w.heap.size (by omega) (by intro e; injection e with e; omega)).trans ((hb1.block w.heap.size (by simp; omega)).trans E1)
    have k2 := (hg2.block (w.heap.size + 1) (by omega) (by intro e; injection e with e; omega)).trans ((hb1.block (w.heap.size + 1) (by simp; omega)).trans R0)
    obtain ⟨⟨x0, x1, x2, x3, x4⟩, y0, y1, y2, y3, y4⟩ := set_cells5 k1
    obtain ⟨⟨r0, r1, r2, r3, r4⟩, q0, q1, q2, q3, q4⟩ := set_cells5 k2
    go_wp2_with fail
    obtain ⟨⟨e0, e1, e2, e3, e4⟩, hgW, hW⟩ := made_fin (g := w.heap.size + 1) hlt (by omega) hg h2 k2 (k := k) (x := x) (y := y) (nm := nm) (A := A) (n := n) (cap := cap) rfl
    exact bodyPost_ret (v := .agg #[.int .i64 k, .int .i64 x, .int .i64 y, strV nm, .slice A n cap]) (by simp [results, Try.results75, e0, e1, e2, e3, e4, go_sem]) rfl ⟨rfl, hgW, hW⟩
  · rw [if_neg h6]
    have g : decide ((600 : Int) < ((s.nd : Int) + 1)) = false := by simp; omega
    have hbA := ((Below.refl w.heap.size w0).alloc (by omega) (.cells #[.int .i64 k, .int .i64 x, .int .i64 y, strV nm, .slice A n cap] 38)).alloc (by simp; omega) (.cells #[.int .i64 k, .int .i64 x, .int .i64 y, strV nm, .slice A n cap] 38)
    have hA := hst.below hbA (by omega)
    rw [hw0] at hA hbA
    go_enter Try.func75, Try.ntmps75
    go_wp2
    exact bodyPost_ret (v := .agg #[.int .i64 k, .int .i64 x, .int .i64 y, strV nm, .slice A n cap]) (by simp [results, Try.results75, go_sem]) rfl ⟨rfl, grown_below (grown_set 3 _) (hbA.mono (by simp)), hA⟩

end Ru
end Go.Proofs.Ytfhedopfjgjffaa

namespace Go.Proofs.Ytfhedopfjgjffaa
open Go.RowKit
namespace Ru
open Lx
open Sl (strV Reads)

theorem _root_.Go.World.grownBy.blk {w w' : World} {pb b : Nat} {t : TypeId} {cs : Array Value} (hg : w.grownBy w' (some pb)) (h : Blk w b t cs) (hne : b ≠ pb) : Blk w' b t cs :=
  (hg.block b h.lt (by intro e; injection e with e; omega)).trans h
theorem ExprOk.grown {w w' : World} {S S' : Nat → Prop} {e : Expr} {A : Option Addr} {pb : Nat} (h : ExprOk w S e A) (hg : w.grownBy w' (some pb)) (hS : ∀ k, S k → k < w.heap.size ∧ k ≠ pb ∧ S' k) : ExprOk w' S' e A :=
  h.keep fun k hk => ⟨hg.block k (hS k hk).1 (by intro e; injection e with e; have := (hS k hk).2.1; omega), (hS k hk).2.2⟩
/-- what a walk's function comes to -/
def WkPost (R : Expr × St) (w : World) (B pb : Nat) (tv : Value) (l : List Tok) (en : Int) (r : Ending) (w' : World) : Prop := w.grownBy w' (some pb) ∧
  ∃ A cap, r = .returned (exprA R.1 A cap) ∧ ExprOk w' (Nw w.heap.size w') R.1 A ∧ WkAt w' B pb tv l en R.2
def SubS (f : Nat) (deep : Int) (l : List Tok) (en : Int) (sub : St → Expr × St) : Prop := ∀ (s : St) (w : World) (B pb : Nat) (tv : Value), WkAt w B pb tv l en s → Inb l s → Calls Try.prog f #[.pointer (some ⟨pb, 0, none⟩), .int .i64 deep] w (WkPost (sub s) w B pb tv l en)

/-- an expression that a function hands back -/
theorem finS {w w5 : World} {B pb g : Nat} {tv : Value} {l : List Tok} {en : Int} {R : Expr × St} {A : Option Addr} {cap : Nat} {S : Nat → Prop} (hlt : pb < w.heap.size) (hz : w.heap.size ≤ g) (hP : WkAt w5 B pb tv l en R.2) (hg : w.grownBy w5 (some pb)) (hE : ExprOk w5 S R.1 A) (hS : ∀ k, S k → w.heap.size ≤ k ∧ k ≠ g ∧ k < w5.heap.size) (a0 a1 a2 a3 a4 : Value) :
    WkPost R w B pb tv l en (.returned (exprA R.1 A cap)) (((((w5.setCell ⟨g, 0, none⟩ a0).setCell ⟨g, 1, none⟩ a1).setCell ⟨g, 2, none⟩ a2).setCell ⟨g, 3, none⟩ a3).setCell ⟨g, 4, none⟩ a4) := by
  have hpg : pb < g := by omega
  refine ⟨((((hg.far hz 0 _).far hz 1 _).far hz 2 _).far hz 3 _).far hz 4 _, A, cap, rfl, hE.keep fun k hk => ⟨?_, ?_⟩, ((((hP.far hpg 0 _).far hpg 1 _).far hpg 2 _).far hpg 3 _).far hpg 4 _⟩
  · have hne := (hS k hk).2.1
    have c : ∀ (W : World) (q : Nat) (u : Value), (W.setCell ⟨g, q, none⟩ u).heap[k]? = W.heap[k]? := fun W q u => Below.heap_setCell W ⟨g, q, none⟩ u k hne
    rw [c, c, c, c, c]
  · have := hS k hk
    unfold Nw
    simp
    omega

theorem rndS {w w8 : World} {B pb g R : Nat} {tv : Value} {l : List Tok} {en : Int} {s : St} {e : Expr} {A : Option Addr} {cap : Nat} {cs : Array Value} (hlt : pb < w.heap.size) (hR : w.heap.size ≤ R) (hz : R < g) (hg8 : w.grownBy w8 (some pb)) (hP : WkAt w8 B pb tv l en s) (hE : ExprOk w8 (fun k => R + 1 ≤ k ∧ k ≠ g ∧ k < w8.heap.size) e A)
    (hEb : Blk w8 g 38 cs) (hc : cs.size = 5) (hRb : Blk w8 R 38 #[.int .i64 0, .int .i64 0, .int .i64 0, strV [], .slice none 0 0]) {W : World}
    (hW : W = ((((w8.setCell ⟨g, 0, none⟩ (.int .i64 e.kind)).setCell ⟨g, 1, none⟩ (.int .i64 e.a)).setCell ⟨g, 2, none⟩ (.int .i64 e.b)).setCell ⟨g, 3, none⟩ (strV e.name)).setCell ⟨g, 4, none⟩ (.slice A e.kids.length cap)) :
    WkAt W B pb tv l en s ∧ Blk W g 38 #[.int .i64 e.kind, .int .i64 e.a, .int .i64 e.b, strV e.name, .slice A e.kids.length cap] ∧ Blk W R 38 #[.int .i64 0, .int .i64 0, .int .i64 0, strV [], .slice none 0 0] ∧ ExprOk W (fun k => R + 1 ≤ k ∧ k ≠ g ∧ k < W.heap.size) e A ∧ w.grownBy W (some pb) := by
  subst hW
  have hpg : pb < g := by omega
  have hwg : w.heap.size ≤ g := by omega
  refine ⟨((((hP.far hpg 0 _).far hpg 1 _).far hpg 2 _).far hpg 3 _).far hpg 4 _, ?_, ((((hRb.far (by show _ ≠ g; omega) _).far (by show _ ≠ g; omega) _).far (by show _ ≠ g; omega) _).far (by show _ ≠ g; omega) _).far (by show _ ≠ g; omega) _, hE.keep fun k hk => ⟨?_, by simpa using hk⟩, ((((hg8.far hwg 0 _).far hwg 1 _).far hwg 2 _).far hwg 3 _).far hwg 4 _⟩
  · obtain ⟨l⟩ := cs
    match l, hc with
    | [a0, a1, a2, a3, a4], _ => exact ((((hEb.set 0 _).set 1 _).set 2 _).set 3 _).set 4 _
  · have c : ∀ (W : World) (q : Nat) (u : Value), (W.setCell ⟨g, q, none⟩ u).heap[k]? = W.heap[k]? := fun W q u => Below.heap_setCell W ⟨g, q, none⟩ u k hk.2.1
    rw [c, c, c, c, c]

set_option maxRecDepth 100000 in
set_option maxHeartbeats 16000000 in
theorem Rfactor_any (deep : Int) (l : List Tok) (en : Int) (hl : l.length ≤ 1000000) (hN : NumOk l) (th : St → Expr × St) (hon : OnF l th) (hth : SubS 105 deep l en th) : SubS 74 deep l en (factorS l en th) := by
  intro s w B pb tv h hin
  have hbA : Below w.heap.size w (w.alloc (.cells #[.int .i64 0, .int .i64 0, .int .i64 0, strV [], .slice none 0 0] 38)) := (Below.refl _ _).alloc (Nat.le_refl _) _
  have hA := h.below hbA (Nat.le_refl _)
  have hT := Lib.hid (hth s _ B pb tv hA hin)
  have BR := Blk.new w 38 #[.int .i64 0, .int .i64 0, .int .i64 0, strV [], .slice none 0 0]
  have hlt := h.lt
  have ho := (hon s hin).inb
  unfold factorS
  obtain ⟨⟨e0, s0⟩, hR0⟩ : ∃ r, th s = r := ⟨_, rfl⟩
  rw [hR0] at hT ho ⊢
  show Calls _ _ _ _ (WkPost (shiftsS l en (l.length + 1) e0 s0) w B pb tv l en)
  obtain ⟨R, hRR⟩ : ∃ R, R = shiftsS l en (l.length + 1) e0 s0 := ⟨_, rfl⟩
  rw [← hRR]
  replace hRR := Lib.hid hRR.symm
  clear hR0
  go_enter Try.func74, Try.ntmps74
  go_wp2_with fail
  refine hT.out.mono ?_
  rintro e w1 ⟨hg1, A0, cap0, rfl, hE1, h1⟩
  unfold exprA
  have hz1 := hg1.size
  simp at hz1
  have hgw : w.grownBy w1 (some pb) := grown_grown (grown_of _ hbA) hg1
  have BR1 : Blk w1 w.heap.size 38 #[.int .i64 0, .int .i64 0, .int .i64 0, strV [], .slice none 0 0] := hg1.blk BR (by omega)
  have hgn : w1.grownBy (w1.alloc (.cells #[.int .i64 e0.kind, .int .i64 e0.a, .int .i64 e0.b, strV e0.name, .slice A0 e0.kids.length cap0] 38)) (some pb) := grown_of _ ((Below.refl _ _).alloc (Nat.le_refl _) _)
  have h2 := h1.below (B' := w1.heap.size) (w' := w1.alloc (.cells #[.int .i64 e0.kind, .int .i64 e0.a, .int .i64 e0.b, strV e0.name, .slice A0 e0.kids.length cap0] 38)) ((Below.refl _ _).alloc (Nat.le_refl _) _) (Nat.le_refl _)
  replace hE1 := Lib.hid (hE1.keep (w' := w1.alloc (.cells #[.int .i64 e0.kind, .int .i64 e0.a, .int .i64 e0.b, strV e0.name, .slice A0 e0.kids.length cap0] 38)) (S' := fun k => w.heap.size + 1 ≤ k ∧ k ≠ w1.heap.size ∧ k < w1.heap.size + 1) (fun k hk => by
    have hk' : w.heap.size + 1 ≤ k ∧ k < w1.heap.size := by have := hk; unfold Nw at this; simpa using this
    exact ⟨((Below.refl w1.heap.size w1).alloc (Nat.le_refl _) _).block k hk'.2, by omega, by omega, by omega⟩))
  have hgw2 := grown_grown hgw hgn
  have B1 := BR1.alloc (.cells #[.int .i64 e0.kind, .int .i64 e0.a, .int .i64 e0.b, strV e0.name, .slice A0 e0.kids.length cap0] 38)
  clear hA hT BR hbA hg1 hgn
  go_wp2_with fail
  go_loopg [6, 7] (l.length - s0.i) (fun q _ _ wr => ∃ (e : Expr) (A : Option Addr) (cap : Nat) (s : St) (f : Nat), q = l.length - s.i ∧ WkAt wr B pb tv l en s ∧ Inb l s ∧ Blk wr w1.heap.size 38 #[.int .i64 e.kind, .int .i64 e.a, .int .i64 e.b, strV e.name, .slice A e.kids.length cap] ∧ Blk wr w.heap.size 38 #[.int .i64 0, .int .i64 0, .int .i64 0, strV [], .slice none 0 0] ∧ Hid (ExprOk wr (fun k => w.heap.size + 1 ≤ k ∧ k ≠ w1.heap.size ∧ k < wr.heap.size) e A) ∧ Hid (shiftsS l en f e s = R) ∧ l.length < f + s.i ∧ w.grownBy wr (some pb))
  case atStart => exact ⟨e0, A0, cap0, s0, l.length + 1, rfl, h2, ho, Blk.new _ _ _, B1, Lib.hid (by simpa using hE1.out), hRR, by omega, hgw2⟩
  case round =>
    clear h1 h2 BR1 hE1 hgw hgw2 B1 hRR ho hin
    obtain ⟨e, A, cap, s, f, hq, hP, hin, hEb, hRb, hE, hR, hf, hgw⟩ := hrel
    replace hq := Lib.hid hq
    have zw := hgw.size
    have zE := hEb.lt
    have si := hin.i
    cases f with
    | zero => omega
    | succ f =>
    have hsh := hR.out
    rw [shiftsS] at hsh
    have hE1 := Lib.hid (Ron_any l en s 2 shiftT wr B pb tv hP)
    unfold shiftT at hE1
    cases hs : onS l en 2 shiftT s with
    | false =>
      rw [hs, if_neg (by decide)] at hsh
      unfold shiftT at hs
      rw [hs] at hE1
      subst hsh
      clear hs hR
      go_wp2_with fail
      refine hE1.out.mono ?_
      rintro e5 w5 ⟨rfl, hb5⟩
      obtain ⟨⟨s0, s1, s2, s3, s4⟩, _⟩ := set_cells5 (hEb.below hb5 zE)
      obtain ⟨⟨r0, r1, r2, r3, r4⟩, q0, q1, q2, q3, q4⟩ := set_cells5 (hRb.below hb5 (by omega))
      have hb5g := hb5.size
      go_wp2_with fail
      have E := (((((hRb.below hb5 (by omega)).set 0 (.int .i64 e.kind)).set 1 (.int .i64 e.a)).set 2 (.int .i64 e.b)).set 3 (strV e.name)).set 4 (.slice A e.kids.length cap)
      obtain ⟨⟨e0', e1', e2', e3', e4'⟩, _⟩ := set_cells5 (a0 := .int .i64 e.kind) (a1 := .int .i64 e.a) (a2 := .int .i64 e.b) (a3 := strV e.name) (a4 := .slice A e.kids.length cap) E
      exact bodyPost_ret (v := exprA e A cap) (by simp [results, Try.results74, e0', e1', e2', e3', e4', go_sem, exprA]) rfl (finS hlt (Nat.le_refl _) (hP.below hb5 (Nat.le_refl _)) (grown_below hgw hb5) (hE.out.keep (S' := fun k => w.heap.size + 1 ≤ k ∧ k < w5.heap.size) (fun k hk => ⟨hb5.block k hk.2.2, hk.1, by have := hk.2.2; omega⟩)) (fun k hk => ⟨by have := hk.1; omega, by have := hk.1; omega, hk.2⟩) _ _ _ _ _)
    | true =>
      rw [hs, if_pos rfl] at hsh
      obtain ⟨hi, hgd, _, _⟩ := on_lt (by decide) hs
      unfold shiftT at hs
      rw [hs] at hE1
      clear hs hR
      have hin1 := (inc_onS hin hi).inb
      have hn6 := (opt_onS (en := en) (t := [45]) hin1).inb
      have lo6 : s.i + 1 ≤ _ := (opt_onS (en := en) (t := [45]) hin1).lo
      go_wp2_with fail
      refine hE1.out.mono ?_
      rintro e5 w5 ⟨rfl, hb5⟩
      have h5 := hP.below hb5 (Nat.le_refl _)
      have c1 : w5.cell? ⟨pb, 1, none⟩ = some (.int .i64 s.i) := Blk.cell h5.blk 1
      have f1 : w5.frozen? ⟨pb, 1, none⟩ = false := Blk.frozen h5.blk 1
      have z5 := hb5.size
      have h5' := h5.step hi
      have hg5 := grown_below hgw hb5
      have g5 : wr.grownBy _ (some pb) := grown_grown (grown_of _ hb5) h5'.2
      go_wp2_with fail
      refine (Ron_any l en (incS s) 3 [45] _ B pb tv h5'.1).mono ?_
      rintro e6 w6 ⟨rfl, hb6⟩
      have h6 := h5'.1.below hb6 (Nat.le_refl _)
      have g6 := grown_below g5 hb6
      have c6 : w6.cell? ⟨pb, 1, none⟩ = some (.int .i64 ((s.i : Int) + 1)) := Blk.cell h6.blk 1
      have f6 : w6.frozen? ⟨pb, 1, none⟩ = false := Blk.frozen h6.blk 1
      have z6 := hb6.size
      simp at z6
      have hOp : optS l en [45] (incS s) = if onS l en 3 [45] (incS s) = true then incS (incS s) else incS s := rfl
      have hSg : sgS l en (incS s) = if onS l en 3 [45] (incS s) = true then -1 else 1 := rfl
      cases hs2 : onS l en 3 [45] (incS s)
      case' false =>
        rw [hs2, if_neg (by decide)] at hOp hSg
        go_wp2_with fail
        obtain ⟨W, hW⟩ : ∃ W, W = w6 := ⟨_, rfl⟩
        rw [← hW] at h6 g6 ⊢
        have zW : wr.heap.size ≤ W.heap.size := by rw [hW]; omega
      case' true =>
        rw [hs2, if_pos rfl] at hOp hSg
        have hi2 := (on_lt (by decide) hs2).1
        go_wp2_with fail
        obtain ⟨W, hW⟩ : ∃ W, W = w6.setCell ⟨pb, 1, none⟩ (.int .i64 ((s.i : Int) + 1 + 1)) := ⟨_, rfl⟩
        replace g6 : wr.grownBy W (some pb) := by rw [hW]; exact grown_grown g6 (h6.step hi2).2
        replace h6 : WkAt W B pb tv l en (incS (incS s)) := by rw [hW]; exact (h6.step hi2).1
        rw [← hW]
        have zW : wr.heap.size ≤ W.heap.size := by rw [hW]; simp; omega
        clear hi2
      all_goals
        clear hW hs2 c6 f6 z6 hb6 h5' g5 c1 f1 h5 hb5 hg5 z5
        rw [hOp, hSg] at hsh
        rw [hOp] at hn6 lo6
        clear hOp hSg
      case' false => generalize incS s = s6 at *
      case' true => generalize incS (incS s) = s6 at *
      all_goals
        have hNx := hN.next (en := en) s6
        obtain ⟨t, ht⟩ : ∃ t, nextS l en s6 = t := ⟨_, rfl⟩
        obtain ⟨tk, tn, ta, tt⟩ := t
        have hGt := Lib.hid (Rget_any l en s6 6 (by decide) W B pb tv h6 hl)
        rw [ht] at hsh hNx hGt
        unfold tokA at hGt
        replace hNx : 0 ≤ tn := hNx
        refine hGt.out.mono ?_
        rintro e7 w7 ⟨rfl, hg7, h7⟩
        have z7 := hg7.size
        obtain ⟨⟨s0, s1, s2, s3⟩, u0, u1, u2, u3⟩ := tok_cells (Blk.new w7 75 (tokB (tk, tn, ta, tt)))
        have hb7 := (Below.refl w7.heap.size w7).alloc (Nat.le_refl _) (.cells #[.int .i64 tk, .int .i64 tn, .int .i64 ta, strV tt] 75)
        obtain ⟨W7, hW7⟩ : ∃ W7, W7 = w7.alloc (.cells #[.int .i64 tk, .int .i64 tn, .int .i64 ta, strV tt] 75) := ⟨_, rfl⟩
        have zW7 : w7.heap.size + 1 ≤ W7.heap.size ∧ W7.heap.size ≤ w7.heap.size + 1 := by rw [hW7]; simp
        have h7' := h7.below hb7 (Nat.le_refl _)
        have g7 := grown_below (grown_grown g6 hg7) hb7
        have gw7 := grown_grown hgw g7
        have hE7 := Lib.hid (hE.out.grown (S' := fun k => w.heap.size + 1 ≤ k ∧ k ≠ w1.heap.size ∧ k < w7.heap.size + 1) g7 (fun k hk => ⟨hk.2.2, by have := hk.1; omega, hk.1, hk.2.1, by have := hk.2.2; omega⟩))
        have hEb7 := g7.blk hEb (by omega)
        have hRb7 := g7.blk hRb (by omega)
        have zz7 : wr.heap.size < W7.heap.size := by omega
        go_wp2_with fail
        rw [← hW7] at h7' g7 gw7 hE7 hEb7 hRb7 s0 s1 s2 s3 u0 u1 u2 u3 ⊢
        clear hgw hE hP hEb hRb hg7 h7 hW7 hb7 zW h6 g6
        refine (Rgood_any l en _ _ B pb tv h7').mono ?_
        rintro e8 w8 ⟨rfl, hw8⟩
        subst w8
        unfold numS at hsh
        have on7 := get_onS (en := en) (k := 6) (by decide) hn6
        have lo7 := on7.lo
        have hi7 := on7.inb.i
        have hX : ∀ s', On l (getS l en 6 s6) s' → s'.i ≤ l.length ∧ s.i + 1 ≤ s'.i := fun s' h => ⟨h.inb.i, by have := h.lo; omega⟩
        rw [ht] at hsh
        replace hsh := Lib.hid hsh
        cases hg7 : goodS (getS l en 6 s6) with
        | false =>
          have hsh1 : (e, getS l en 6 s6) = R := by have := hsh.out; rwa [fault_keep hg7, if_neg (by rw [hg7]; decide)] at this
          clear hsh
          go_wp2_with fail
          refine (Rgood_any l en _ _ B pb tv h7').mono ?_
          rintro e8 w8 ⟨rfl, hw8⟩
          subst w8
          rw [hg7]
          go_wp2_with fail
          go_roundg (l.length - (getS l en 6 s6).i)
          exact ⟨e, A, cap, getS l en 6 s6, f, rfl, h7', on7.inb, hEb7, hRb7, Lib.hid (by rw [show W7.heap.size = w7.heap.size + 1 from by omega]; exact hE7.out), Lib.hid (by rw [shifts_keep hg7]; exact hsh1), by omega, gw7⟩
          rw [hq.out]
          omega
        | true =>
          have hof := fun x => fault_good (c := x) (e := 3) (p := ta) hg7
          cases hoff : offN (tk, tn, ta, tt) with
          | true =>
            have hbad : goodS (stopS 3 ta (getS l en 6 s6)) = false := by rw [stop_good hg7]; rfl
            have hst : faultS (offN (tk, tn, ta, tt)) 3 ta (getS l en 6 s6) = stopS 3 ta (getS l en 6 s6) := by rw [hof, hoff, if_pos rfl, stop_good hg7]
            have hsh1 : (e, stopS 3 ta (getS l en 6 s6)) = R := by have := hsh.out; rwa [hst, if_neg (by rw [hbad]; decide)] at this
            clear hsh hof
            have hon8 := stop_onS (e := 3) (p := ta) (by decide) on7.inb
            have hS := Lib.hid (Rstop_any l en _ 3 ta _ B pb tv h7')
            unfold offN at hoff
            have fin : ∀ w8, (W8 : World) → W8 = w8 → W7.grownBy w8 (some pb) → WkAt w8 B pb tv l en (stopS 3 ta (getS l en 6 s6)) → ∃ (e : Expr) (A : Option Addr) (cap : Nat) (s : St) (f : Nat), l.length - (stopS 3 ta (getS l en 6 s6)).i = l.length - s.i ∧ WkAt W8 B pb tv l en s ∧ Inb l s ∧ Blk W8 w1.heap.size 38 #[.int .i64 e.kind, .int .i64 e.a, .int .i64 e.b, strV e.name, .slice A e.kids.length cap] ∧ Blk W8 w.heap.size 38 #[.int .i64 0, .int .i64 0, .int .i64 0, strV [], .slice none 0 0] ∧ Hid (ExprOk W8 (fun k => w.heap.size + 1 ≤ k ∧ k ≠ w1.heap.size ∧ k < W8.heap.size) e A) ∧ Hid (shiftsS l en f e s = R) ∧ l.length < f + s.i ∧ w.grownBy W8 (some pb) := by
              rintro w8 _ rfl hg8 h8
              have := hX _ hon8
              have z8 := hg8.size
              exact ⟨e, A, cap, _, f, rfl, h8, hon8.inb, hg8.blk hEb7 (by omega), hg8.blk hRb7 (by omega), Lib.hid (hE7.out.grown hg8 (fun k hk => ⟨by have := hk.2.2; omega, by have := hk.1; omega, hk.1, hk.2.1, by have := hk.2.2; omega⟩)), Lib.hid (by rw [shifts_keep hbad]; exact hsh1), by omega, grown_grown gw7 hg8⟩
            replace fin := Lib.hid fin
            have hX8 := hX _ hon8
            rcases dec (tn = 0) with ⟨q1, hv1⟩ | ⟨q1, hv1⟩
            · subst hv1
              go_wp2_with fail
              refine hS.out.mono ?_
              rintro e8 w8 ⟨rfl, hg8, h8⟩
              go_wp2_with fail
              refine (Rgood_any l en _ _ B pb tv h8).mono ?_
              rintro e9 w9 ⟨rfl, rfl⟩
              rw [hbad]
              go_wp2_with fail
              go_roundg (l.length - (stopS 3 ta (getS l en 6 s6)).i)
              exact fin.out _ _ rfl hg8 h8
              rw [hq.out]
              omega
            · have g1 : (tn == 0) = false := by simpa using hv1
              have g2 : decide ((1439 : Int) < tn) = true := by simp [g1] at hoff; simpa using hoff
              go_wp2_with fail
              refine hS.out.mono ?_
              rintro e8 w8 ⟨rfl, hg8, h8⟩
              go_wp2_with fail
              refine (Rgood_any l en _ _ B pb tv h8).mono ?_
              rintro e9 w9 ⟨rfl, rfl⟩
              rw [hbad]
              go_wp2_with fail
              go_roundg (l.length - (stopS 3 ta (getS l en 6 s6)).i)
              exact fin.out _ _ rfl hg8 h8
              rw [hq.out]
              omega
          | false =>
            have hst : faultS (offN (tk, tn, ta, tt)) 3 ta (getS l en 6 s6) = getS l en 6 s6 := by rw [hof, hoff, if_neg (by decide)]
            have hsh1 := hsh.out
            rw [hst, if_pos hg7] at hsh1
            clear hsh hof
            unfold offN at hoff
            have g1 : (tn == 0) = false := by cases hq : (tn == 0) with | false => rfl | true => rw [show ((tn == 0) : Bool) = true from hq] at hoff; cases hoff
            have g2 : decide ((1439 : Int) < tn) = false := by simp [g1] at hoff; simpa using hoff
            have b1 : tn ≤ 1439 := by simpa using g2
            have n7 := on7.inb.nd hg7
            go_wp2_with fail
            refine (Rgood_any l en _ _ B pb tv h7').mono ?_
            rintro e9 w9 ⟨rfl, hw9⟩
            subst w9
            rw [hg7]
            obtain ⟨⟨x0, x1, x2, x3, x4⟩, y0, y1, y2, y3, y4⟩ := set_cells5 hEb7
            have hbW : Below W7.heap.size W7 (W7.alloc (.cells #[.int .i64 e.kind, .int .i64 e.a, .int .i64 e.b, strV e.name, .slice A e.kids.length cap] 38)) := (Below.refl _ _).alloc (Nat.le_refl _) _
            have hgW : W7.grownBy (W7.alloc (.cells #[.int .i64 e.kind, .int .i64 e.a, .int .i64 e.b, strV e.name, .slice A e.kids.length cap] 38)) (some pb) := grown_of _ hbW
            have hPW := h7'.below (B' := W7.heap.size) hbW (Nat.le_refl _)
            have O := fun x => Lib.hid ((hE7.out.keep (w' := W7) (S' := fun k => w.heap.size + 1 ≤ k ∧ k ≠ w1.heap.size ∧ k < W7.heap.size) (fun k hk => ⟨rfl, hk.1, hk.2.1, by have := hk.2.2; omega⟩)).one (cap := cap) (k := 9) (x := x) (y := 0) (by decide) (by decide) (S' := fun k => w.heap.size + 1 ≤ k ∧ k ≠ w1.heap.size ∧ k < W7.heap.size + 1) (fun k hk => ⟨hk.2.2, hk.1, hk.2.1, by have := hk.2.2; omega⟩) ⟨by omega, by omega, by omega⟩ 38)
            have hEW := hEb7.alloc (.cells #[.int .i64 e.kind, .int .i64 e.a, .int .i64 e.b, strV e.name, .slice A e.kids.length cap] 38)
            have hRW := hRb7.alloc (.cells #[.int .i64 e.kind, .int .i64 e.a, .int .i64 e.b, strV e.name, .slice A e.kids.length cap] 38)
            have hm8 := made_onS (en := en) on7.inb
            have hX8 := hX _ (made_onS (en := en) on7.inb)
            go_wp2_with fail
            refine (Rmade_any l en _ 9 _ 0 [] _ 1 1 _ B pb tv hPW n7).mono ?_
            rintro e8 w8 ⟨rfl, hg8, h8⟩
            have hEb8 := hg8.blk hEW (by omega)
            have hRb8 := hg8.blk hRW (by omega)
            obtain ⟨⟨x0, x1, x2, x3, x4⟩, y0, y1, y2, y3, y4⟩ := set_cells5 hEb8
            have z8 := hg8.size
            simp at z8
            go_wp2_with fail
            have O2 := fun x => (O x).out.grown (S' := fun k => w.heap.size + 1 ≤ k ∧ k ≠ w1.heap.size ∧ k < w8.heap.size) hg8 (fun k hk => ⟨by simp; exact hk.2.2, by have := hk.1; omega, hk.1, hk.2.1, by have := hk.2.2; omega⟩)
            first
            | skip
              rw [show (1 : Int) * tn = tn from by omega] at hsh1
              obtain ⟨r1, r2, r3, r4, r5⟩ := rndS (w := w) (cap := 1) hlt (Nat.le_refl _) hz1 (grown_grown gw7 (grown_grown hgW hg8)) h8 (O2 (tn)) hEb8 rfl hRb8 rfl
              go_roundg (l.length - (madeS l en (getS l en 6 s6)).i)
              exact ⟨.mk 9 (tn) 0 [] [e], some ⟨W7.heap.size, 0, none⟩, 1, madeS l en (getS l en 6 s6), f, rfl, r1, hm8.inb, r2, r3, Lib.hid r4, Lib.hid hsh1, by omega, r5⟩
              rw [hq.out]
              omega
            | skip
              rw [show (-1 : Int) * tn = -tn from by omega] at hsh1
              obtain ⟨r1, r2, r3, r4, r5⟩ := rndS (w := w) (cap := 1) hlt (Nat.le_refl _) hz1 (grown_grown gw7 (grown_grown hgW hg8)) h8 (O2 (-tn)) hEb8 rfl hRb8 rfl
              go_roundg (l.length - (madeS l en (getS l en 6 s6)).i)
              exact ⟨.mk 9 (-tn) 0 [] [e], some ⟨W7.heap.size, 0, none⟩, 1, madeS l en (getS l en 6 s6), f, rfl, r1, hm8.inb, r2, r3, Lib.hid r4, Lib.hid hsh1, by omega, r5⟩
              rw [hq.out]
              omega

end Ru
end Go.Proofs.Ytfhedopfjgjffaa

namespace Go.Proofs.Ytfhedopfjgjffaa
open Go.RowKit
namespace Ru
open Lx
open Sl (strV Reads)

def SumS (hold deep : Int) (l : List Tok) (en : Int) (sub : St → Expr × St) : Prop := ∀ (s : St) (w : World) (B pb : Nat) (tv : Value), WkAt w B pb tv l en s → Inb l s → Calls Try.prog 48 #[.pointer (some ⟨pb, 0, none⟩), .int .i64 hold, .int .i64 deep] w (WkPost (sub s) w B pb tv l en)

set_option maxRecDepth 100000 in
set_option maxHeartbeats 4000000 in
theorem Rsum2_any (deep : Int) (l : List Tok) (en : Int) (fa : St → Expr × St) (hfa : SubS 74 deep l en fa) : SumS 2 deep l en fa := by
  intro s w B pb tv h hin
  have hbA : Below w.heap.size w (w.alloc (.cells #[.int .i64 0, .int .i64 0, .int .i64 0, strV [], .slice none 0 0] 38)) := (Below.refl _ _).alloc (Nat.le_refl _) _
  have hA := h.below hbA (Nat.le_refl _)
  have hT := Lib.hid (hfa s _ B pb tv hA hin)
  have BR := Blk.new w 38 #[.int .i64 0, .int .i64 0, .int .i64 0, strV [], .slice none 0 0]
  have hlt := h.lt
  go_enter Try.func48, Try.ntmps48
  go_wp2_with fail
  refine hT.out.mono ?_
  rintro e w1 ⟨hg1, A, cap, rfl, hE1, h1⟩
  unfold exprA
  have hz1 := hg1.size
  simp at hz1
  have hgw : w.grownBy w1 (some pb) := grown_grown (grown_of _ hbA) hg1
  have BR1 : Blk w1 w.heap.size 38 #[.int .i64 0, .int .i64 0, .int .i64 0, strV [], .slice none 0 0] := hg1.blk BR (by omega)
  obtain ⟨⟨r0, r1, r2, r3, r4⟩, q0, q1, q2, q3, q4⟩ := set_cells5 BR1
  go_wp2_with fail
  have E := ((((BR1.set 0 (.int .i64 (fa s).1.kind)).set 1 (.int .i64 (fa s).1.a)).set 2 (.int .i64 (fa s).1.b)).set 3 (strV (fa s).1.name)).set 4 (.slice A (fa s).1.kids.length cap)
  obtain ⟨⟨e0', e1', e2', e3', e4'⟩, _⟩ := set_cells5 (a0 := .int .i64 (fa s).1.kind) (a1 := .int .i64 (fa s).1.a) (a2 := .int .i64 (fa s).1.b) (a3 := strV (fa s).1.name) (a4 := .slice A (fa s).1.kids.length cap) E
  exact bodyPost_ret (v := exprA (fa s).1 A cap) (by simp [results, Try.results48, e0', e1', e2', e3', e4', go_sem, exprA]) rfl (finS hlt (Nat.le_refl _) h1 hgw hE1 (fun k hk => by have := hk; unfold Nw at this; simp at this; omega) _ _ _ _ _)

set_option maxRecDepth 100000 in
set_option maxHeartbeats 16000000 in
theorem Rsum1_any (deep : Int) (l : List Tok) (en : Int) (hl : l.length ≤ 1000000) (sub : St → Expr × St) (hon : OnF l sub) (hsub : SumS 2 deep l en sub) : SumS 1 deep l en (fun s => signsS l en (andS l en) sub (l.length + 1) (sub s).1 (sub s).2) := by
  intro s w B pb tv h hin
  have hbA : Below w.heap.size w (w.alloc (.cells #[.int .i64 0, .int .i64 0, .int .i64 0, strV [], .slice none 0 0] 38)) := (Below.refl _ _).alloc (Nat.le_refl _) _
  have hA := h.below hbA (Nat.le_refl _)
  have hT := Lib.hid (hsub s _ B pb tv hA hin)
  have BR := Blk.new w 38 #[.int .i64 0, .int .i64 0, .int .i64 0, strV [], .slice none 0 0]
  have hlt := h.lt
  have ho := (hon s hin).inb
  show Calls _ _ _ _ (WkPost (signsS l en (andS l en) sub (l.length + 1) (sub s).1 (sub s).2) w B pb tv l en)
  obtain ⟨⟨e0, s0⟩, hR0⟩ : ∃ r, sub s = r := ⟨_, rfl⟩
  rw [hR0] at hT ho ⊢
  show Calls _ _ _ _ (WkPost (signsS l en (andS l en) sub (l.length + 1) e0 s0) w B pb tv l en)
  obtain ⟨R, hRR⟩ : ∃ R, R = signsS l en (andS l en) sub (l.length + 1) e0 s0 := ⟨_, rfl⟩
  rw [← hRR]
  replace hRR := Lib.hid hRR.symm
  clear hR0
  go_enter Try.func48, Try.ntmps48
  go_wp2_with fail
  refine hT.out.mono ?_
  rintro e w1 ⟨hg1, A0, cap0, rfl, hE1, h1⟩
  unfold exprA
  have hz1 := hg1.size
  simp at hz1
  have hgw : w.grownBy w1 (some pb) := grown_grown (grown_of _ hbA) hg1
  have BR1 : Blk w1 w.heap.size 38 #[.int .i64 0, .int .i64 0, .int .i64 0, strV [], .slice none 0 0] := hg1.blk BR (by omega)
  have hgn : w1.grownBy (w1.alloc (.cells #[.int .i64 e0.kind, .int .i64 e0.a, .int .i64 e0.b, strV e0.name, .slice A0 e0.kids.length cap0] 38)) (some pb) := grown_of _ ((Below.refl _ _).alloc (Nat.le_refl _) _)
  have h2 := h1.below (B' := w1.heap.size) (w' := w1.alloc (.cells #[.int .i64 e0.kind, .int .i64 e0.a, .int .i64 e0.b, strV e0.name, .slice A0 e0.kids.length cap0] 38)) ((Below.refl _ _).alloc (Nat.le_refl _) _) (Nat.le_refl _)
  replace hE1 := Lib.hid (hE1.keep (w' := w1.alloc (.cells #[.int .i64 e0.kind, .int .i64 e0.a, .int .i64 e0.b, strV e0.name, .slice A0 e0.kids.length cap0] 38)) (S' := fun k => w.heap.size + 1 ≤ k ∧ k ≠ w1.heap.size ∧ k < w1.heap.size + 1) (fun k hk => by
    have hk' : w.heap.size + 1 ≤ k ∧ k < w1.heap.size := by have := hk; unfold Nw at this; simpa using this
    exact ⟨((Below.refl w1.heap.size w1).alloc (Nat.le_refl _) _).block k hk'.2, by omega, by omega, by omega⟩))
  have hgw2 := grown_grown hgw hgn
  have B1 := BR1.alloc (.cells #[.int .i64 e0.kind, .int .i64 e0.a, .int .i64 e0.b, strV e0.name, .slice A0 e0.kids.length cap0] 38)
  clear hA hT BR hbA hg1 hgn
  go_wp2_with fail
  go_loopg [8, 9] (l.length - s0.i) (fun q _ _ wr => ∃ (e : Expr) (A : Option Addr) (cap : Nat) (s : St) (f : Nat), q = l.length - s.i ∧ WkAt wr B pb tv l en s ∧ Inb l s ∧ Blk wr w1.heap.size 38 #[.int .i64 e.kind, .int .i64 e.a, .int .i64 e.b, strV e.name, .slice A e.kids.length cap] ∧ Blk wr w.heap.size 38 #[.int .i64 0, .int .i64 0, .int .i64 0, strV [], .slice none 0 0] ∧ Hid (ExprOk wr (fun k => w.heap.size + 1 ≤ k ∧ k ≠ w1.heap.size ∧ k < wr.heap.size) e A) ∧ Hid (signsS l en (andS l en) sub f e s = R) ∧ l.length < f + s.i ∧ w.grownBy wr (some pb))
  case atStart => exact ⟨e0, A0, cap0, s0, l.length + 1, rfl, h2, ho, Blk.new _ _ _, B1, Lib.hid (by simpa using hE1.out), hRR, by omega, hgw2⟩
  case round =>
    clear h1 h2 BR1 hE1 hgw hgw2 B1 hRR ho hin
    obtain ⟨e, A, cap, s, f, hq, hP, hin, hEb, hRb, hE, hR, hf, hgw⟩ := hrel
    replace hq := Lib.hid hq
    have zw := hgw.size
    have zE := hEb.lt
    have si := hin.i
    cases f with
    | zero => omega
    | succ f =>
    have hsh := hR.out
    rw [signsS] at hsh
    have fin : ∀ w5, Below wr.heap.size wr w5 → (andS l en s = 0) → WkPost R w B pb tv l en (.returned (exprA e A cap)) (((((w5.setCell ⟨w.heap.size, 0, none⟩ (.int .i64 e.kind)).setCell ⟨w.heap.size, 1, none⟩ (.int .i64 e.a)).setCell ⟨w.heap.size, 2, none⟩ (.int .i64 e.b)).setCell ⟨w.heap.size, 3, none⟩ (strV e.name)).setCell ⟨w.heap.size, 4, none⟩ (.slice A e.kids.length cap)) := by
      intro w5 hb5 h0
      rw [if_pos h0] at hsh
      have hb5g := hb5.size
      subst hsh
      exact finS hlt (Nat.le_refl _) (hP.below hb5 (Nat.le_refl _)) (grown_below hgw hb5) (hE.out.keep (S' := fun k => w.heap.size + 1 ≤ k ∧ k < w5.heap.size) (fun k hk => ⟨hb5.block k hk.2.2, hk.1, by have := hk.2.2; omega⟩)) (fun k hk => ⟨by have := hk.1; omega, by have := hk.1; omega, hk.2⟩) _ _ _ _ _
    replace fin := Lib.hid fin
    replace hsh := Lib.hid hsh
    have cel : ∀ w5, Below wr.heap.size wr w5 → wr.heap.size ≤ w5.heap.size ∧ (w5.cell? ⟨w1.heap.size, 0, none⟩ = some (.int .i64 e.kind) ∧ w5.cell? ⟨w1.heap.size, 1, none⟩ = some (.int .i64 e.a) ∧ w5.cell? ⟨w1.heap.size, 2, none⟩ = some (.int .i64 e.b) ∧ w5.cell? ⟨w1.heap.size, 3, none⟩ = some (strV e.name) ∧ w5.cell? ⟨w1.heap.size, 4, none⟩ = some (.slice A e.kids.length cap)) ∧ ((w5.cell? ⟨w.heap.size, 0, none⟩ = some (.int .i64 0) ∧ w5.cell? ⟨w.heap.size, 1, none⟩ = some (.int .i64 0) ∧ w5.cell? ⟨w.heap.size, 2, none⟩ = some (.int .i64 0) ∧ w5.cell? ⟨w.heap.size, 3, none⟩ = some (strV []) ∧ w5.cell? ⟨w.heap.size, 4, none⟩ = some (.slice none 0 0)) ∧ (w5.frozen? ⟨w.heap.size, 0, none⟩ = false ∧ w5.frozen? ⟨w.heap.size, 1, none⟩ = false ∧ w5.frozen? ⟨w.heap.size, 2, none⟩ = false ∧ w5.frozen? ⟨w.heap.size, 3, none⟩ = false ∧ w5.frozen? ⟨w.heap.size, 4, none⟩ = false)) :=
      fun w5 hb5 => ⟨hb5.size, (set_cells5 (hEb.below hb5 zE)).1, set_cells5 (hRb.below hb5 (by omega))⟩
    have put : ∀ w5, Below wr.heap.size wr w5 → Blk (((((w5.setCell ⟨w.heap.size, 0, none⟩ (.int .i64 e.kind)).setCell ⟨w.heap.size, 1, none⟩ (.int .i64 e.a)).setCell ⟨w.heap.size, 2, none⟩ (.int .i64 e.b)).setCell ⟨w.heap.size, 3, none⟩ (strV e.name)).setCell ⟨w.heap.size, 4, none⟩ (.slice A e.kids.length cap)) w.heap.size 38 #[.int .i64 e.kind, .int .i64 e.a, .int .i64 e.b, strV e.name, .slice A e.kids.length cap] := fun w5 hb5 => ((((hRb.below hb5 (by omega)).set 0 (.int .i64 e.kind)).set 1 (.int .i64 e.a)).set 2 (.int .i64 e.b) |>.set 3 (strV e.name)).set 4 (.slice A e.kids.length cap)
    replace cel := Lib.hid cel
    replace put := Lib.hid put
    have hGd := Lib.hid (Rgood_any l en s wr B pb tv hP)
    cases hgd : goodS s with
    | false =>
      rw [hgd] at hGd
      have h0 := (and_ok (l := l) (en := en)) s hgd
      obtain ⟨zz, ⟨s0, s1, s2, s3, s4⟩, ⟨r0, r1, r2, r3, r4⟩, q0, q1, q2, q3, q4⟩ := cel.out _ (Below.refl _ _)
      go_wp2_with fail
      refine hGd.out.mono ?_
      rintro e5 w5 ⟨rfl, hw5⟩
      subst w5
      go_wp2_with fail
      obtain ⟨⟨e0', e1', e2', e3', e4'⟩, _⟩ := set_cells5 (put.out _ (Below.refl _ _))
      exact bodyPost_ret (v := exprA e A cap) (by simp [results, Try.results48, e0', e1', e2', e3', e4', go_sem, exprA]) rfl (fin.out _ (Below.refl _ _) h0)
    | true =>
      rw [hgd] at hGd
      have hO := Lib.hid (Ron_any l en s 3 [38] wr B pb tv hP)
      go_wp2_with fail
      refine hGd.out.mono ?_
      rintro e5 w5 ⟨rfl, hw5⟩
      subst w5
      go_wp2_with fail
      refine hO.out.mono ?_
      rintro e5 w5 ⟨rfl, hb5⟩
      cases hs : onS l en 3 [38] s with
      | false =>
        have h0 : andS l en s = 0 := by unfold andS; rw [hs, if_neg (by decide)]
        obtain ⟨zz, ⟨s0, s1, s2, s3, s4⟩, ⟨r0, r1, r2, r3, r4⟩, q0, q1, q2, q3, q4⟩ := cel.out _ hb5
        go_wp2_with fail
        obtain ⟨⟨e0', e1', e2', e3', e4'⟩, _⟩ := set_cells5 (put.out _ hb5)
        exact bodyPost_ret (v := exprA e A cap) (by simp [results, Try.results48, e0', e1', e2', e3', e4', go_sem, exprA]) rfl (fin.out _ hb5 h0)
      | true =>
        have h0 : andS l en s = 8 := by unfold andS; rw [hs, if_pos rfl]
        have hi := (on_lt (by decide) hs).1
        have h5 := hP.below hb5 (Nat.le_refl _)
        have c1 : w5.cell? ⟨pb, 1, none⟩ = some (.int .i64 s.i) := Blk.cell h5.blk 1
        have f1 : w5.frozen? ⟨pb, 1, none⟩ = false := Blk.frozen h5.blk 1
        have z5 := hb5.size
        have hst := h5.step hi
        have hin1 := (inc_onS hin hi).inb
        have hon1 := hon _ hin1
        have hg5 : wr.grownBy (w5.setCell ⟨pb, 1, none⟩ (.int .i64 ((s.i : Int) + 1))) (some pb) := grown_grown (grown_of _ hb5) hst.2
        have hS := Lib.hid (hsub (incS s) _ B pb tv hst.1 hin1)
        have hsh1 := hsh.out
        rw [if_neg (by rw [h0]; decide), h0] at hsh1
        clear hsh
        obtain ⟨⟨e1, s1⟩, hR1⟩ : ∃ r, sub (incS s) = r := ⟨_, rfl⟩
        rw [hR1] at hS hsh1 hon1
        replace hsh1 : (if goodS s1 = true then signsS l en (andS l en) sub f (.mk 8 0 0 [] [e, e1]) (madeS l en s1) else (e, s1)) = R := hsh1
        replace hon1 : On l (incS s) s1 := hon1
        have lo1 : s.i + 1 ≤ s1.i := hon1.lo
        have hi1 := hon1.inb.i
        replace hsh1 := Lib.hid hsh1
        clear hR1 fin cel put
        go_wp2_with fail
        refine hS.out.mono ?_
        rintro e6 w6 ⟨hg6, A2, cap2, rfl, hE2, h6⟩
        unfold exprA
        have z6 := hg6.size
        simp at z6
        replace hE2 : ExprOk w6 (Nw w5.heap.size w6) e1 A2 := by simpa using hE2
        replace h6 : WkAt w6 B pb tv l en s1 := h6
        have hb6 := (Below.refl w6.heap.size w6).alloc (Nat.le_refl _) (.cells #[.int .i64 e1.kind, .int .i64 e1.a, .int .i64 e1.b, strV e1.name, .slice A2 e1.kids.length cap2] 38)
        obtain ⟨W7, hW7⟩ : ∃ W7, W7 = w6.alloc (.cells #[.int .i64 e1.kind, .int .i64 e1.a, .int .i64 e1.b, strV e1.name, .slice A2 e1.kids.length cap2] 38) := ⟨_, rfl⟩
        have zW7 : w6.heap.size + 1 ≤ W7.heap.size ∧ W7.heap.size ≤ w6.heap.size + 1 := by rw [hW7]; simp
        have h7 := h6.below hb6 (Nat.le_refl _)
        have g7 := grown_below (grown_grown hg5 hg6) hb6
        have gw7 := grown_grown hgw g7
        have hE7 := Lib.hid (hE.out.grown (S' := fun k => w.heap.size + 1 ≤ k ∧ k ≠ w1.heap.size ∧ k < w6.heap.size + 1) g7 (fun k hk => ⟨hk.2.2, by have := hk.1; omega, hk.1, hk.2.1, by have := hk.2.2; omega⟩))
        have hF7 := Lib.hid (hE2.keep (w' := w6.alloc (.cells #[.int .i64 e1.kind, .int .i64 e1.a, .int .i64 e1.b, strV e1.name, .slice A2 e1.kids.length cap2] 38)) (S' := fun k => w.heap.size + 1 ≤ k ∧ k ≠ w1.heap.size ∧ k < w6.heap.size + 1) (fun k hk => by have hk' : w5.heap.size ≤ k ∧ k < w6.heap.size := hk; exact ⟨hb6.block k hk'.2, by omega, by omega, by omega⟩))
        have hEb7 := g7.blk hEb (by omega)
        have hRb7 := g7.blk hRb (by omega)
        obtain ⟨⟨t0, t1, t2, t3, t4⟩, _⟩ := set_cells5 (Blk.new w6 38 #[.int .i64 e1.kind, .int .i64 e1.a, .int .i64 e1.b, strV e1.name, .slice A2 e1.kids.length cap2])
        go_wp2_with fail
        rw [← hW7] at h7 g7 gw7 hE7 hF7 hEb7 hRb7 t0 t1 t2 t3 t4 ⊢
        clear hgw hE hP hEb hRb hg6 h6 hW7 hb6 hE2 h5 hst hg5 hS c1 f1
        refine (Rgood_any l en _ _ B pb tv h7).mono ?_
        rintro e8 w8 ⟨rfl, hw8⟩
        subst w8
        cases hg7 : goodS s1 with
        | false =>
          have hsh2 : (e, s1) = R := by have := hsh1.out; rwa [if_neg (by rw [hg7]; decide)] at this
          go_wp2_with fail
          go_roundg (l.length - s1.i)
          exact ⟨e, A, cap, s1, f, rfl, h7, hon1.inb, hEb7, hRb7, Lib.hid (by rw [show W7.heap.size = w6.heap.size + 1 from by omega]; exact hE7.out), Lib.hid (by rw [signs_keep and_ok hg7]; exact hsh2), by omega, gw7⟩
          rw [hq.out]
          omega
        | true =>
          have hsh2 := hsh1.out
          rw [if_pos hg7] at hsh2
          have n7 := hon1.inb.nd hg7
          obtain ⟨⟨x0, x1, x2, x3, x4⟩, y0, y1, y2, y3, y4⟩ := set_cells5 hEb7
          have hbW : Below W7.heap.size W7 (W7.alloc (.cells #[.int .i64 e.kind, .int .i64 e.a, .int .i64 e.b, strV e.name, .slice A e.kids.length cap, .int .i64 e1.kind, .int .i64 e1.a, .int .i64 e1.b, strV e1.name, .slice A2 e1.kids.length cap2] 38)) := (Below.refl _ _).alloc (Nat.le_refl _) _
          have hgW : W7.grownBy (W7.alloc (.cells #[.int .i64 e.kind, .int .i64 e.a, .int .i64 e.b, strV e.name, .slice A e.kids.length cap, .int .i64 e1.kind, .int .i64 e1.a, .int .i64 e1.b, strV e1.name, .slice A2 e1.kids.length cap2] 38)) (some pb) := grown_of _ hbW
          have hPW := h7.below (B' := W7.heap.size) hbW (Nat.le_refl _)
          have O := Lib.hid ((hE7.out.keep (w' := W7) (S' := fun k => w.heap.size + 1 ≤ k ∧ k ≠ w1.heap.size ∧ k < W7.heap.size) (fun k hk => ⟨rfl, hk.1, hk.2.1, by have := hk.2.2; omega⟩)).two (cap := cap) (cap2 := cap2) (hF7.out.keep (w' := W7) (S' := fun k => w.heap.size + 1 ≤ k ∧ k ≠ w1.heap.size ∧ k < W7.heap.size) (fun k hk => ⟨rfl, hk.1, hk.2.1, by have := hk.2.2; omega⟩)) (k := 8) (x := 0) (y := 0) (by decide) (by decide) (S' := fun k => w.heap.size + 1 ≤ k ∧ k ≠ w1.heap.size ∧ k < W7.heap.size + 1) (fun k hk => ⟨hk.2.2, hk.1, hk.2.1, by have := hk.2.2; omega⟩) ⟨by omega, by omega, by omega⟩ 38)
          have hEW := hEb7.alloc (.cells #[.int .i64 e.kind, .int .i64 e.a, .int .i64 e.b, strV e.name, .slice A e.kids.length cap, .int .i64 e1.kind, .int .i64 e1.a, .int .i64 e1.b, strV e1.name, .slice A2 e1.kids.length cap2] 38)
          have hRW := hRb7.alloc (.cells #[.int .i64 e.kind, .int .i64 e.a, .int .i64 e.b, strV e.name, .slice A e.kids.length cap, .int .i64 e1.kind, .int .i64 e1.a, .int .i64 e1.b, strV e1.name, .slice A2 e1.kids.length cap2] 38)
          have hm8 := made_onS (en := en) hon1.inb
          have lo8 := hm8.lo
          have hi8 := hm8.inb.i
          go_wp2_with fail
          refine (Rmade_any l en _ 8 _ 0 [] _ 2 2 _ B pb tv hPW n7).mono ?_
          rintro e8 w8 ⟨rfl, hg8, h8⟩
          have hEb8 := hg8.blk hEW (by omega)
          have hRb8 := hg8.blk hRW (by omega)
          obtain ⟨⟨x0, x1, x2, x3, x4⟩, y0, y1, y2, y3, y4⟩ := set_cells5 hEb8
          have z8 := hg8.size
          simp at z8
          go_wp2_with fail
          have O2 := O.out.grown (S' := fun k => w.heap.size + 1 ≤ k ∧ k ≠ w1.heap.size ∧ k < w8.heap.size) hg8 (fun k hk => ⟨by simp; exact hk.2.2, by have := hk.1; omega, hk.1, hk.2.1, by have := hk.2.2; omega⟩)
          obtain ⟨r1, r2, r3, r4, r5⟩ := rndS (w := w) (cap := 2) hlt (Nat.le_refl _) hz1 (grown_grown gw7 (grown_grown hgW hg8)) h8 O2 hEb8 rfl hRb8 rfl
          go_roundg (l.length - (madeS l en s1).i)
          exact ⟨.mk 8 0 0 [] [e, e1], some ⟨W7.heap.size, 0, none⟩, 2, madeS l en s1, f, rfl, r1, hm8.inb, r2, r3, Lib.hid r4, Lib.hid hsh2, by omega, r5⟩
          rw [hq.out]
          omega

set_option maxRecDepth 100000 in
set_option maxHeartbeats 16000000 in
theorem Rsum0_any (deep : Int) (l : List Tok) (en : Int) (hl : l.length ≤ 1000000) (sub : St → Expr × St) (hon : OnF l sub) (hsub : SumS 1 deep l en sub) : SumS 0 deep l en (fun s => signsS l en (plusS l en) sub (l.length + 1) (sub s).1 (sub s).2) := by
  intro s w B pb tv h hin
  have hbA : Below w.heap.size w (w.alloc (.cells #[.int .i64 0, .int .i64 0, .int .i64 0, strV [], .slice none 0 0] 38)) := (Below.refl _ _).alloc (Nat.le_refl _) _
  have hA := h.below hbA (Nat.le_refl _)
  have hT := Lib.hid (hsub s _ B pb tv hA hin)
  have BR := Blk.new w 38 #[.int .i64 0, .int .i64 0, .int .i64 0, strV [], .slice none 0 0]
  have hlt := h.lt
  have ho := (hon s hin).inb
  show Calls _ _ _ _ (WkPost (signsS l en (plusS l en) sub (l.length + 1) (sub s).1 (sub s).2) w B pb tv l en)
  obtain ⟨⟨e0, s0⟩, hR0⟩ : ∃ r, sub s = r := ⟨_, rfl⟩
  rw [hR0] at hT ho ⊢
  show Calls _ _ _ _ (WkPost (signsS l en (plusS l en) sub (l.length + 1) e0 s0) w B pb tv l en)
  obtain ⟨R, hRR⟩ : ∃ R, R = signsS l en (plusS l en) sub (l.length + 1) e0 s0 := ⟨_, rfl⟩
  rw [← hRR]
  replace hRR := Lib.hid hRR.symm
  clear hR0
  go_enter Try.func48, Try.ntmps48
  go_wp2_with fail
  refine hT.out.mono ?_
  rintro e w1 ⟨hg1, A0, cap0, rfl, hE1, h1⟩
  unfold exprA
  have hz1 := hg1.size
  simp at hz1
  have hgw : w.grownBy w1 (some pb) := grown_grown (grown_of _ hbA) hg1
  have BR1 : Blk w1 w.heap.size 38 #[.int .i64 0, .int .i64 0, .int .i64 0, strV [], .slice none 0 0] := hg1.blk BR (by omega)
  have hgn : w1.grownBy (w1.alloc (.cells #[.int .i64 e0.kind, .int .i64 e0.a, .int .i64 e0.b, strV e0.name, .slice A0 e0.kids.length cap0] 38)) (some pb) := grown_of _ ((Below.refl _ _).alloc (Nat.le_refl _) _)
  have h2 := h1.below (B' := w1.heap.size) (w' := w1.alloc (.cells #[.int .i64 e0.kind, .int .i64 e0.a, .int .i64 e0.b, strV e0.name, .slice A0 e0.kids.length cap0] 38)) ((Below.refl _ _).alloc (Nat.le_refl _) _) (Nat.le_refl _)
  replace hE1 := Lib.hid (hE1.keep (w' := w1.alloc (.cells #[.int .i64 e0.kind, .int .i64 e0.a, .int .i64 e0.b, strV e0.name, .slice A0 e0.kids.length cap0] 38)) (S' := fun k => w.heap.size + 1 ≤ k ∧ k ≠ w1.heap.size ∧ k < w1.heap.size + 1) (fun k hk => by
    have hk' : w.heap.size + 1 ≤ k ∧ k < w1.heap.size := by have := hk; unfold Nw at this; simpa using this
    exact ⟨((Below.refl w1.heap.size w1).alloc (Nat.le_refl _) _).block k hk'.2, by omega, by omega, by omega⟩))
  have hgw2 := grown_grown hgw hgn
  have B1 := BR1.alloc (.cells #[.int .i64 e0.kind, .int .i64 e0.a, .int .i64 e0.b, strV e0.name, .slice A0 e0.kids.length cap0] 38)
  clear hA hT BR hbA hg1 hgn
  go_wp2_with fail
  go_loopg [8, 9] (l.length - s0.i) (fun q _ _ wr => ∃ (e : Expr) (A : Option Addr) (cap : Nat) (s : St) (f : Nat), q = l.length - s.i ∧ WkAt wr B pb tv l en s ∧ Inb l s ∧ Blk wr w1.heap.size 38 #[.int .i64 e.kind, .int .i64 e.a, .int .i64 e.b, strV e.name, .slice A e.kids.length cap] ∧ Blk wr w.heap.size 38 #[.int .i64 0, .int .i64 0, .int .i64 0, strV [], .slice none 0 0] ∧ Hid (ExprOk wr (fun k => w.heap.size + 1 ≤ k ∧ k ≠ w1.heap.size ∧ k < wr.heap.size) e A) ∧ Hid (signsS l en (plusS l en) sub f e s = R) ∧ l.length < f + s.i ∧ w.grownBy wr (some pb))
  case atStart => exact ⟨e0, A0, cap0, s0, l.length + 1, rfl, h2, ho, Blk.new _ _ _, B1, Lib.hid (by simpa using hE1.out), hRR, by omega, hgw2⟩
  case round =>
    clear h1 h2 BR1 hE1 hgw hgw2 B1 hRR ho hin
    obtain ⟨e, A, cap, s, f, hq, hP, hin, hEb, hRb, hE, hR, hf, hgw⟩ := hrel
    replace hq := Lib.hid hq
    have zw := hgw.size
    have zE := hEb.lt
    have si := hin.i
    cases f with
    | zero => omega
    | succ f =>
    have hsh := hR.out
    rw [signsS] at hsh
    have fin : ∀ w5, Below wr.heap.size wr w5 → (plusS l en s = 0) → WkPost R w B pb tv l en (.returned (exprA e A cap)) (((((w5.setCell ⟨w.heap.size, 0, none⟩ (.int .i64 e.kind)).setCell ⟨w.heap.size, 1, none⟩ (.int .i64 e.a)).setCell ⟨w.heap.size, 2, none⟩ (.int .i64 e.b)).setCell ⟨w.heap.size, 3, none⟩ (strV e.name)).setCell ⟨w.heap.size, 4, none⟩ (.slice A e.kids.length cap)) := by
      intro w5 hb5 h0
      rw [if_pos h0] at hsh
      have hb5g := hb5.size
      subst hsh
      exact finS hlt (Nat.le_refl _) (hP.below hb5 (Nat.le_refl _)) (grown_below hgw hb5) (hE.out.keep (S' := fun k => w.heap.size + 1 ≤ k ∧ k < w5.heap.size) (fun k hk => ⟨hb5.block k hk.2.2, hk.1, by have := hk.2.2; omega⟩)) (fun k hk => ⟨by have := hk.1; omega, by have := hk.1; omega, hk.2⟩) _ _ _ _ _
    replace fin := Lib.hid fin
    replace hsh := Lib.hid hsh
    have cel : ∀ w5, Below wr.heap.size wr w5 → wr.heap.size ≤ w5.heap.size ∧ (w5.cell? ⟨w1.heap.size, 0, none⟩ = some (.int .i64 e.kind) ∧ w5.cell? ⟨w1.heap.size, 1, none⟩ = some (.int .i64 e.a) ∧ w5.cell? ⟨w1.heap.size, 2, none⟩ = some (.int .i64 e.b) ∧ w5.cell? ⟨w1.heap.size, 3, none⟩ = some (strV e.name) ∧ w5.cell? ⟨w1.heap.size, 4, none⟩ = some (.slice A e.kids.length cap)) ∧ ((w5.cell? ⟨w.heap.size, 0, none⟩ = some (.int .i64 0) ∧ w5.cell? ⟨w.heap.size, 1, none⟩ = some (.int .i64 0) ∧ w5.cell? ⟨w.heap.size, 2, none⟩ = some (.int .i64 0) ∧ w5.cell? ⟨w.heap.size, 3, none⟩ = some (strV []) ∧ w5.cell? ⟨w.heap.size, 4, none⟩ = some (.slice none 0 0)) ∧ (w5.frozen? ⟨w.heap.size, 0, none⟩ = false ∧ w5.frozen? ⟨w.heap.size, 1, none⟩ = false ∧ w5.frozen? ⟨w.heap.size, 2, none⟩ = false ∧ w5.frozen? ⟨w.heap.size, 3, none⟩ = false ∧ w5.frozen? ⟨w.heap.size, 4, none⟩ = false)) :=
      fun w5 hb5 => ⟨hb5.size, (set_cells5 (hEb.below hb5 zE)).1, set_cells5 (hRb.below hb5 (by omega))⟩
    have put : ∀ w5, Below wr.heap.size wr w5 → Blk (((((w5.setCell ⟨w.heap.size, 0, none⟩ (.int .i64 e.kind)).setCell ⟨w.heap.size, 1, none⟩ (.int .i64 e.a)).setCell ⟨w.heap.size, 2, none⟩ (.int .i64 e.b)).setCell ⟨w.heap.size, 3, none⟩ (strV e.name)).setCell ⟨w.heap.size, 4, none⟩ (.slice A e.kids.length cap)) w.heap.size 38 #[.int .i64 e.kind, .int .i64 e.a, .int .i64 e.b, strV e.name, .slice A e.kids.length cap] := fun w5 hb5 => ((((hRb.below hb5 (by omega)).set 0 (.int .i64 e.kind)).set 1 (.int .i64 e.a)).set 2 (.int .i64 e.b) |>.set 3 (strV e.name)).set 4 (.slice A e.kids.length cap)
    replace cel := Lib.hid cel
    replace put := Lib.hid put
    have hGd := Lib.hid (Rgood_any l en s wr B pb tv hP)
    cases hgd : goodS s with
    | false =>
      rw [hgd] at hGd
      have h0 := (plus_ok (l := l) (en := en)) s hgd
      obtain ⟨zz, ⟨s0, s1, s2, s3, s4⟩, ⟨r0, r1, r2, r3, r4⟩, q0, q1, q2, q3, q4⟩ := cel.out _ (Below.refl _ _)
      go_wp2_with fail
      refine hGd.out.mono ?_
      rintro e5 w5 ⟨rfl, hw5⟩
      subst w5
      go_wp2_with fail
      obtain ⟨⟨e0', e1', e2', e3', e4'⟩, _⟩ := set_cells5 (put.out _ (Below.refl _ _))
      exact bodyPost_ret (v := exprA e A cap) (by simp [results, Try.results48, e0', e1', e2', e3', e4', go_sem, exprA]) rfl (fin.out _ (Below.refl _ _) h0)
    | true =>
      rw [hgd] at hGd
      have hO := Lib.hid (Ron_any l en s 3 [43] wr B pb tv hP)
      go_wp2_with fail
      refine hGd.out.mono ?_
      rintro e5 w5 ⟨rfl, hw5⟩
      subst w5
      go_wp2_with fail
      refine hO.out.mono ?_
      rintro e5 w5 ⟨rfl, hb5⟩
      cases hs : onS l en 3 [43] s with
      | false =>
        have hO2 := Lib.hid (Ron_any l en s 3 [45] w5 B pb tv (hP.below hb5 (Nat.le_refl _)))
        go_wp2_with fail
        refine hO2.out.mono ?_
        rintro e6 w6 ⟨rfl, hb6⟩
        replace hb5 := hb5.trans (hb6.mono hb5.size)
        clear hb6 hO2
        clear w5
        obtain ⟨w5, hw5⟩ : ∃ w5, w5 = w6 := ⟨_, rfl⟩
        rw [← hw5] at hb5 ⊢
        clear hw5
        cases hs2 : onS l en 3 [45] s with
        | false =>
          have h0 : plusS l en s = 0 := by unfold plusS; rw [hs, if_neg (by decide), hs2, if_neg (by decide)]
          obtain ⟨zz, ⟨s0, s1, s2, s3, s4⟩, ⟨r0, r1, r2, r3, r4⟩, q0, q1, q2, q3, q4⟩ := cel.out _ hb5
          go_wp2_with fail
          obtain ⟨⟨e0', e1', e2', e3', e4'⟩, _⟩ := set_cells5 (put.out _ hb5)
          exact bodyPost_ret (v := exprA e A cap) (by simp [results, Try.results48, e0', e1', e2', e3', e4', go_sem, exprA]) rfl (fin.out _ hb5 h0)
        | true =>
          have h0 : plusS l en s = 7 := by unfold plusS; rw [hs, if_neg (by decide), hs2, if_pos rfl]
          have hi := (on_lt (by decide) hs2).1
          have h5 := hP.below hb5 (Nat.le_refl _)
          have c1 : w5.cell? ⟨pb, 1, none⟩ = some (.int .i64 s.i) := Blk.cell h5.blk 1
          have f1 : w5.frozen? ⟨pb, 1, none⟩ = false := Blk.frozen h5.blk 1
          have z5 := hb5.size
          have hst := h5.step hi
          have hin1 := (inc_onS hin hi).inb
          have hon1 := hon _ hin1
          have hg5 : wr.grownBy (w5.setCell ⟨pb, 1, none⟩ (.int .i64 ((s.i : Int) + 1))) (some pb) := grown_grown (grown_of _ hb5) hst.2
          have hS := Lib.hid (hsub (incS s) _ B pb tv hst.1 hin1)
          have hsh1 := hsh.out
          rw [if_neg (by rw [h0]; decide), h0] at hsh1
          clear hsh
          obtain ⟨⟨e1, s1⟩, hR1⟩ : ∃ r, sub (incS s) = r := ⟨_, rfl⟩
          rw [hR1] at hS hsh1 hon1
          replace hsh1 : (if goodS s1 = true then signsS l en (plusS l en) sub f (.mk 7 0 0 [] [e, e1]) (madeS l en s1) else (e, s1)) = R := hsh1
          replace hon1 : On l (incS s) s1 := hon1
          have lo1 : s.i + 1 ≤ s1.i := hon1.lo
          have hi1 := hon1.inb.i
          replace hsh1 := Lib.hid hsh1
          clear hR1 fin cel put
          go_wp2_with fail
          refine hS.out.mono ?_
          rintro e6 w6 ⟨hg6, A2, cap2, rfl, hE2, h6⟩
          unfold exprA
          have z6 := hg6.size
          simp at z6
          replace hE2 : ExprOk w6 (Nw w5.heap.size w6) e1 A2 := by simpa using hE2
          replace h6 : WkAt w6 B pb tv l en s1 := h6
          have hb6 := (Below.refl w6.heap.size w6).alloc (Nat.le_refl _) (.cells #[.int .i64 e1.kind, .int .i64 e1.a, .int .i64 e1.b, strV e1.name, .slice A2 e1.kids.length cap2] 38)
          obtain ⟨W7, hW7⟩ : ∃ W7, W7 = w6.alloc (.cells #[.int .i64 e1.kind, .int .i64 e1.a, .int .i64 e1.b, strV e1.name, .slice A2 e1.kids.length cap2] 38) := ⟨_, rfl⟩
          have zW7 : w6.heap.size + 1 ≤ W7.heap.size ∧ W7.heap.size ≤ w6.heap.size + 1 := by rw [hW7]; simp
          have h7 := h6.below hb6 (Nat.le_refl _)
          have g7 := grown_below (grown_grown hg5 hg6) hb6
          have gw7 := grown_grown hgw g7
          have hE7 := Lib.hid (hE.out.grown (S' := fun k => w.heap.size + 1 ≤ k ∧ k ≠ w1.heap.size ∧ k < w6.heap.size + 1) g7 (fun k hk => ⟨hk.2.2, by have := hk.1; omega, hk.1, hk.2.1, by have := hk.2.2; omega⟩))
          have hF7 := Lib.hid (hE2.keep (w' := w6.alloc (.cells #[.int .i64 e1.kind, .int .i64 e1.a, .int .i64 e1.b, strV e1.name, .slice A2 e1.kids.length cap2] 38)) (S' := fun k => w.heap.size + 1 ≤ k ∧ k ≠ w1.heap.size ∧ k < w6.heap.size + 1) (fun k hk => by have hk' : w5.heap.size ≤ k ∧ k < w6.heap.size := hk; exact ⟨hb6.block k hk'.2, by omega, by omega, by omega⟩))
          have hEb7 := g7.blk hEb (by omega)
          have hRb7 := g7.blk hRb (by omega)
          obtain ⟨⟨t0, t1, t2, t3, t4⟩, _⟩ := set_cells5 (Blk.new w6 38 #[.int .i64 e1.kind, .int .i64 e1.a, .int .i64 e1.b, strV e1.name, .slice A2 e1.kids.length cap2])
          go_wp2_with fail
          rw [← hW7] at h7 g7 gw7 hE7 hF7 hEb7 hRb7 t0 t1 t2 t3 t4 ⊢
          clear hgw hE hP hEb hRb hg6 h6 hW7 hb6 hE2 h5 hst hg5 hS c1 f1
          refine (Rgood_any l en _ _ B pb tv h7).mono ?_
          rintro e8 w8 ⟨rfl, hw8⟩
          subst w8
          cases hg7 : goodS s1 with
          | false =>
            have hsh2 : (e, s1) = R := by have := hsh1.out; rwa [if_neg (by rw [hg7]; decide)] at this
            go_wp2_with fail
            go_roundg (l.length - s1.i)
            exact ⟨e, A, cap, s1, f, rfl, h7, hon1.inb, hEb7, hRb7, Lib.hid (by rw [show W7.heap.size = w6.heap.size + 1 from by omega]; exact hE7.out), Lib.hid (by rw [signs_keep plus_ok hg7]; exact hsh2), by omega, gw7⟩
            rw [hq.out]
            omega
          | true =>
            have hsh2 := hsh1.out
            rw [if_pos hg7] at hsh2
            have n7 := hon1.inb.nd hg7
            obtain ⟨⟨x0, x1, x2, x3, x4⟩, y0, y1, y2, y3, y4⟩ := set_cells5 hEb7
            have hbW : Below W7.heap.size W7 (W7.alloc (.cells #[.int .i64 e.kind, .int .i64 e.a, .int .i64 e.b, strV e.name, .slice A e.kids.length cap, .int .i64 e1.kind, .int .i64 e1.a, .int .i64 e1.b, strV e1.name, .slice A2 e1.kids.length cap2] 38)) := (Below.refl _ _).alloc (Nat.le_refl _) _
            have hgW : W7.grownBy (W7.alloc (.cells #[.int .i64 e.kind, .int .i64 e.a, .int .i64 e.b, strV e.name, .slice A e.kids.length cap, .int .i64 e1.kind, .int .i64 e1.a, .int .i64 e1.b, strV e1.name, .slice A2 e1.kids.length cap2] 38)) (some pb) := grown_of _ hbW
            have hPW := h7.below (B' := W7.heap.size) hbW (Nat.le_refl _)
            have O := Lib.hid ((hE7.out.keep (w' := W7) (S' := fun k => w.heap.size + 1 ≤ k ∧ k ≠ w1.heap.size ∧ k < W7.heap.size) (fun k hk => ⟨rfl, hk.1, hk.2.1, by have := hk.2.2; omega⟩)).two (cap := cap) (cap2 := cap2) (hF7.out.keep (w' := W7) (S' := fun k => w.heap.size + 1 ≤ k ∧ k ≠ w1.heap.size ∧ k < W7.heap.size) (fun k hk => ⟨rfl, hk.1, hk.2.1, by have := hk.2.2; omega⟩)) (k := 7) (x := 0) (y := 0) (by decide) (by decide) (S' := fun k => w.heap.size + 1 ≤ k ∧ k ≠ w1.heap.size ∧ k < W7.heap.size + 1) (fun k hk => ⟨hk.2.2, hk.1, hk.2.1, by have := hk.2.2; omega⟩) ⟨by omega, by omega, by omega⟩ 38)
            have hEW := hEb7.alloc (.cells #[.int .i64 e.kind, .int .i64 e.a, .int .i64 e.b, strV e.name, .slice A e.kids.length cap, .int .i64 e1.kind, .int .i64 e1.a, .int .i64 e1.b, strV e1.name, .slice A2 e1.kids.length cap2] 38)
            have hRW := hRb7.alloc (.cells #[.int .i64 e.kind, .int .i64 e.a, .int .i64 e.b, strV e.name, .slice A e.kids.length cap, .int .i64 e1.kind, .int .i64 e1.a, .int .i64 e1.b, strV e1.name, .slice A2 e1.kids.length cap2] 38)
            have hm8 := made_onS (en := en) hon1.inb
            have lo8 := hm8.lo
            have hi8 := hm8.inb.i
            go_wp2_with fail
            refine (Rmade_any l en _ 7 _ 0 [] _ 2 2 _ B pb tv hPW n7).mono ?_
            rintro e8 w8 ⟨rfl, hg8, h8⟩
            have hEb8 := hg8.blk hEW (by omega)
            have hRb8 := hg8.blk hRW (by omega)
            obtain ⟨⟨x0, x1, x2, x3, x4⟩, y0, y1, y2, y3, y4⟩ := set_cells5 hEb8
            have z8 := hg8.size
            simp at z8
            go_wp2_with fail
            have O2 := O.out.grown (S' := fun k => w.heap.size + 1 ≤ k ∧ k ≠ w1.heap.size ∧ k < w8.heap.size) hg8 (fun k hk => ⟨by simp; exact hk.2.2, by have := hk.1; omega, hk.1, hk.2.1, by have := hk.2.2; omega⟩)
            obtain ⟨r1, r2, r3, r4, r5⟩ := rndS (w := w) (cap := 2) hlt (Nat.le_refl _) hz1 (grown_grown gw7 (grown_grown hgW hg8)) h8 O2 hEb8 rfl hRb8 rfl
            go_roundg (l.length - (madeS l en s1).i)
            exact ⟨.mk 7 0 0 [] [e, e1], some ⟨W7.heap.size, 0, none⟩, 2, madeS l en s1, f, rfl, r1, hm8.inb, r2, r3, Lib.hid r4, Lib.hid hsh2, by omega, r5⟩
            rw [hq.out]
            omega
      | true =>
        have h0 : plusS l en s = 6 := by unfold plusS; rw [hs, if_pos rfl]
        have hi := (on_lt (by decide) hs).1
        have h5 := hP.below hb5 (Nat.le_refl _)
        have c1 : w5.cell? ⟨pb, 1, none⟩ = some (.int .i64 s.i) := Blk.cell h5.blk 1
        have f1 : w5.frozen? ⟨pb, 1, none⟩ = false := Blk.frozen h5.blk 1
        have z5 := hb5.size
        have hst := h5.step hi
        have hin1 := (inc_onS hin hi).inb
        have hon1 := hon _ hin1
        have hg5 : wr.grownBy (w5.setCell ⟨pb, 1, none⟩ (.int .i64 ((s.i : Int) + 1))) (some pb) := grown_grown (grown_of _ hb5) hst.2
        have hS := Lib.hid (hsub (incS s) _ B pb tv hst.1 hin1)
        have hsh1 := hsh.out
        rw [if_neg (by rw [h0]; decide), h0] at hsh1
        clear hsh
        obtain ⟨⟨e1, s1⟩, hR1⟩ : ∃ r, sub (incS s) = r := ⟨_, rfl⟩
        rw [hR1] at hS hsh1 hon1
        replace hsh1 : (if goodS s1 = true then signsS l en (plusS l en) sub f (.mk 6 0 0 [] [e, e1]) (madeS l en s1) else (e, s1)) = R := hsh1
        replace hon1 : On l (incS s) s1 := hon1
        have lo1 : s.i + 1 ≤ s1.i := hon1.lo
        have hi1 := hon1.inb.i
        replace hsh1 := Lib.hid hsh1
        clear hR1 fin cel put
        go_wp2_with fail
        refine hS.out.mono ?_
        rintro e6 w6 ⟨hg6, A2, cap2, rfl, hE2, h6⟩
        unfold exprA
        have z6 := hg6.size
        simp at z6
        replace hE2 : ExprOk w6 (Nw w5.heap.size w6) e1 A2 := by simpa using hE2
        replace h6 : WkAt w6 B pb tv l en s1 := h6
        have hb6 := (Below.refl w6.heap.size w6).alloc (Nat.le_refl _) (.cells #[.int .i64 e1.kind, .int .i64 e1.a, .int .i64 e1.b, strV e1.name, .slice A2 e1.kids.length cap2] 38)
        obtain ⟨W7, hW7⟩ : ∃ W7, W7 = w6.alloc (.cells #[.int .i64 e1.kind, .int .i64 e1.a, .int .i64 e1.b, strV e1.name, .slice A2 e1.kids.length cap2] 38) := ⟨_, rfl⟩
        have zW7 : w6.heap.size + 1 ≤ W7.heap.size ∧ W7.heap.size ≤ w6.heap.size + 1 := by rw [hW7]; simp
        have h7 := h6.below hb6 (Nat.le_refl _)
        have g7 := grown_below (grown_grown hg5 hg6) hb6
        have gw7 := grown_grown hgw g7
        have hE7 := Lib.hid (hE.out.grown (S' := fun k => w.heap.size + 1 ≤ k ∧ k ≠ w1.heap.size ∧ k < w6.heap.size + 1) g7 (fun k hk => ⟨hk.2.2, by have := hk.1; omega, hk.1, hk.2.1, by have := hk.2.2; omega⟩))
        have hF7 := Lib.hid (hE2.keep (w' := w6.alloc (.cells #[.int .i64 e1.kind, .int .i64 e1.a, .int .i64 e1.b, strV e1.name, .slice A2 e1.kids.length cap2] 38)) (S' := fun k => w.heap.size + 1 ≤ k ∧ k ≠ w1.heap.size ∧ k < w6.heap.size + 1) (fun k hk => by have hk' : w5.heap.size ≤ k ∧ k < w6.heap.size := hk; exact ⟨hb6.block k hk'.2, by omega, by omega, by omega⟩))
        have hEb7 := g7.blk hEb (by omega)
        have hRb7 := g7.blk hRb (by omega)
        obtain ⟨⟨t0, t1, t2, t3, t4⟩, _⟩ := set_cells5 (Blk.new w6 38 #[.int .i64 e1.kind, .int .i64 e1.a, .int .i64 e1.b, strV e1.name, .slice A2 e1.kids.length cap2])
        go_wp2_with fail
        rw [← hW7] at h7 g7 gw7 hE7 hF7 hEb7 hRb7 t0 t1 t2 t3 t4 ⊢
        clear hgw hE hP hEb hRb hg6 h6 hW7 hb6 hE2 h5 hst hg5 hS c1 f1
        refine (Rgood_any l en _ _ B pb tv h7).mono ?_
        rintro e8 w8 ⟨rfl, hw8⟩
        subst w8
        cases hg7 : goodS s1 with
        | false =>
          have hsh2 : (e, s1) = R := by have := hsh1.out; rwa [if_neg (by rw [hg7]; decide)] at this
          go_wp2_with fail
          go_roundg (l.length - s1.i)
          exact ⟨e, A, cap, s1, f, rfl, h7, hon1.inb, hEb7, hRb7, Lib.hid (by rw [show W7.heap.size = w6.heap.size + 1 from by omega]; exact hE7.out), Lib.hid (by rw [signs_keep plus_ok hg7]; exact hsh2), by omega, gw7⟩
          rw [hq.out]
          omega
        | true =>
          have hsh2 := hsh1.out
          rw [if_pos hg7] at hsh2
          have n7 := hon1.inb.nd hg7
          obtain ⟨⟨x0, x1, x2, x3, x4⟩, y0, y1, y2, y3, y4⟩ := set_cells5 hEb7
          have hbW : Below W7.heap.size W7 (W7.alloc (.cells #[.int .i64 e.kind, .int .i64 e.a, .int .i64 e.b, strV e.name, .slice A e.kids.length cap, .int .i64 e1.kind, .int .i64 e1.a, .int .i64 e1.b, strV e1.name, .slice A2 e1.kids.length cap2] 38)) := (Below.refl _ _).alloc (Nat.le_refl _) _
          have hgW : W7.grownBy (W7.alloc (.cells #[.int .i64 e.kind, .int .i64 e.a, .int .i64 e.b, strV e.name, .slice A e.kids.length cap, .int .i64 e1.kind, .int .i64 e1.a, .int .i64 e1.b, strV e1.name, .slice A2 e1.kids.length cap2] 38)) (some pb) := grown_of _ hbW
          have hPW := h7.below (B' := W7.heap.size) hbW (Nat.le_refl _)
          have O := Lib.hid ((hE7.out.keep (w' := W7) (S' := fun k => w.heap.size + 1 ≤ k ∧ k ≠ w1.heap.size ∧ k < W7.heap.size) (fun k hk => ⟨rfl, hk.1, hk.2.1, by have := hk.2.2; omega⟩)).two (cap := cap) (cap2 := cap2) (hF7.out.keep (w' := W7) (S' := fun k => w.heap.size + 1 ≤ k ∧ k ≠ w1.heap.size ∧ k < W7.heap.size) (fun k hk => ⟨rfl, hk.1, hk.2.1, by have := hk.2.2; omega⟩)) (k := 6) (x := 0) (y := 0) (by decide) (by decide) (S' := fun k => w.heap.size + 1 ≤ k ∧ k ≠ w1.heap.size ∧ k < W7.heap.size + 1) (fun k hk => ⟨hk.2.2, hk.1, hk.2.1, by have := hk.2.2; omega⟩) ⟨by omega, by omega, by omega⟩ 38)
          have hEW := hEb7.alloc (.cells #[.int .i64 e.kind, .int .i64 e.a, .int .i64 e.b, strV e.name, .slice A e.kids.length cap, .int .i64 e1.kind, .int .i64 e1.a, .int .i64 e1.b, strV e1.name, .slice A2 e1.kids.length cap2] 38)
          have hRW := hRb7.alloc (.cells #[.int .i64 e.kind, .int .i64 e.a, .int .i64 e.b, strV e.name, .slice A e.kids.length cap, .int .i64 e1.kind, .int .i64 e1.a, .int .i64 e1.b, strV e1.name, .slice A2 e1.kids.length cap2] 38)
          have hm8 := made_onS (en := en) hon1.inb
          have lo8 := hm8.lo
          have hi8 := hm8.inb.i
          go_wp2_with fail
          refine (Rmade_any l en _ 6 _ 0 [] _ 2 2 _ B pb tv hPW n7).mono ?_
          rintro e8 w8 ⟨rfl, hg8, h8⟩
          have hEb8 := hg8.blk hEW (by omega)
          have hRb8 := hg8.blk hRW (by omega)
          obtain ⟨⟨x0, x1, x2, x3, x4⟩, y0, y1, y2, y3, y4⟩ := set_cells5 hEb8
          have z8 := hg8.size
          simp at z8
          go_wp2_with fail
          have O2 := O.out.grown (S' := fun k => w.heap.size + 1 ≤ k ∧ k ≠ w1.heap.size ∧ k < w8.heap.size) hg8 (fun k hk => ⟨by simp; exact hk.2.2, by have := hk.1; omega, hk.1, hk.2.1, by have := hk.2.2; omega⟩)
          obtain ⟨r1, r2, r3, r4, r5⟩ := rndS (w := w) (cap := 2) hlt (Nat.le_refl _) hz1 (grown_grown gw7 (grown_grown hgW hg8)) h8 O2 hEb8 rfl hRb8 rfl
          go_roundg (l.length - (madeS l en s1).i)
          exact ⟨.mk 6 0 0 [] [e, e1], some ⟨W7.heap.size, 0, none⟩, 2, madeS l en s1, f, rfl, r1, hm8.inb, r2, r3, Lib.hid r4, Lib.hid hsh2, by omega, r5⟩
          rw [hq.out]
          omega

end Ru
end Go.Proofs.Ytfhedopfjgjffaa
