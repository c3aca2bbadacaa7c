/- What an expression means on a day: (*mean.day).expr. An order in which each rule stands behind those that it speaks of: check.Order. A mask laid into a literal, cell by cell. No walk. Rules that are right; what is known of their masks so far; rows of masks. What all rules mean on a day: mean.All. Rows of masks read; slotref5.Same at masks that are the same. -/
import Derived.Test.YtbadplbdgpbdaaaDoorMea
import Derived.Test.YtbadplbdgpbdaaaDoorMsE
import Derived.Test.YtbadplbdgpbdaaaDoorApp
import Derived.Test.YtbadplbdgpbdaaaDoorWk
import Derived.Test.YtbadplbdgpbdaaaDoorFrmW
import Derived.StringKeys
import Derived.Test.YtbadplbdgpbdaaaDoorUsC
import Derived.Test.YtbadplbdgpbdaaaDoorAt
import Derived.Test.YtbadplbdgpbdaaaDoorMask
import Derived.WalkKit
import Derived.WalkSpells
import Derived.Deep.Draws
import Derived.Test.YtbadplbdgpbdaaaDoorLate
import Derived.Deep.MidRow
import Derived.Deep.OwnRows
import Derived.Laws.MakeOwn
import Derived.Test.YtbadplbdgpbdaaaDoorEqF
namespace Go.Proofs.YtbadplbdgpbdaaaDoor
open Go.RowKit Go.Maps Go.ChangeShapes Go.WideMaps
namespace Ru
open Msk Vm
open Sl (strV Reads IntsV)

/-- an expression whose form is right -/
def GoodE (e : Expr) : Prop := ∃ deep n, (formE Lx.isName e deep n).1 = 0
theorem formL_good {l : List Expr} : ∀ {deep n : Nat}, (formL Lx.isName l deep n).1 = 0 → ∀ (i : Nat) (k : Expr), l[i]? = some k → GoodE k := by
  induction l with
  | nil => intro deep n _ i k hk; simp at hk
  | cons x l ih =>
    intro deep n h i k hk
    rw [formL] at h
    split at h
    · rename_i h0
      cases i with
      | zero => simp at hk; subst hk; exact ⟨deep, n, h0⟩
      | succ i => exact ih h i k (by simpa using hk)
    · rename_i h0; exact absurd h h0
theorem GoodE.own {e : Expr} (h : GoodE e) : ownErr Lx.isName e = 0 := by
  obtain ⟨deep, n, h⟩ := h
  rw [formE_eq] at h
  split at h
  · simp at h
  · split at h
    · assumption
    · rename_i h2; exact absurd h h2
theorem GoodE.kid {e : Expr} (h : GoodE e) {i : Nat} {k : Expr} (hk : e.kids[i]? = some k) : GoodE k := by
  obtain ⟨deep, n, h⟩ := h
  rw [formE_eq] at h
  split at h
  · simp at h
  · split at h
    · exact formL_good h i k hk
    · rename_i h2; exact absurd h h2
theorem own_facts {nm : List UInt8 → Bool} {e : Expr} (h : ownErr nm e = 0) : 1 ≤ e.kind ∧ e.kind ≤ 10 ∧ e.kids.length = kidsOf e.kind ∧ (e.kind = 4 → 1 ≤ e.a ∧ e.a ≤ 127) ∧ (e.kind = 5 → 0 ≤ e.a ∧ e.b < 146097) ∧ (e.kind = 3 → 0 ≤ e.a ∧ e.b ≤ 1440) ∧ (e.kind = 9 → -1440 < e.a ∧ e.a < 1440) := by
  unfold ownErr at h
  by_cases h1 : e.kind < 1 ∨ 10 < e.kind
  · rw [if_pos h1] at h; cases h
  rw [if_neg h1] at h
  by_cases h2 : e.kids.length ≠ kidsOf e.kind
  · rw [if_pos h2] at h; cases h
  rw [if_neg h2] at h
  refine ⟨by omega, by omega, by omega, fun e4 => ?_, fun e5 => ?_, fun e3 => ?_, fun e9 => ?_⟩
  · rw [if_neg (by omega), if_pos e4] at h
    split at h
    · cases h
    · omega
  · rw [if_neg (by omega), if_neg (by omega), if_pos e5] at h
    split at h
    · cases h
    · omega
  · rw [if_pos e3] at h
    split at h
    · cases h
    · omega
  · rw [if_neg (by omega), if_neg (by omega), if_neg (by omega), if_pos e9] at h
    split at h
    · cases h
    · omega
theorem kids_one {l : List Expr} (h : l.length = 1) : ∃ k, l = [k] := by
  match l, h with
  | [k], _ => exact ⟨k, rfl⟩
theorem kids_two {l : List Expr} (h : l.length = 2) : ∃ k1 k2, l = [k1, k2] := by
  match l, h with
  | [k1, k2], _ => exact ⟨k1, k2, rfl⟩

/-- masks by name, as a map keeps them -/
def envF (M : List UInt8 → Option (Nat → Bool)) : Lit → Option Value
  | .string b => (M b).map fun p => .agg (maskA (setW p))
  | _ => none
def putM (M : List UInt8 → Option (Nat → Bool)) (nm : List UInt8) (p : Nat → Bool) : List UInt8 → Option (Nat → Bool) := fun x => if x = nm then some p else M x
theorem put_envF (M : List UInt8 → Option (Nat → Bool)) (nm : List UInt8) (p : Nat → Bool) : Mp.put (envF M) (.string nm) (.agg (maskA (setW p))) = envF (putM M nm p) := by
  funext x
  unfold Mp.put
  cases e : x.sameKey (.string nm) with
  | true =>
    have := WideAt.sameKey_eq e
    subst this
    simp [envF, putM]
  | false =>
    simp only [Bool.false_eq_true, if_false]
    unfold envF
    split
    · rename_i y
      have hy : ¬ y = nm := fun e' => by subst e'; rw [WideAt.sameKey_self (show WideAt.IsKeyLit (.string y) from trivial)] at e; cases e
      simp [putM, hy]
    · rfl
theorem none_envF : (fun _ => none : Lit → Option Value) = envF (fun _ => none) := by
  funext x
  unfold envF
  split <;> simp
theorem zero_mask (w : World) : (zeroValue 38).run Tryd.prog w = .ok (.agg (maskA (fun _ => 0))) w := by
  rw [← zeroA]
  kernel_rfl
theorem key_str {nm : List UInt8} (h : nm.length ≤ 9223372036854775807) : keyOf Tryd.prog 9 (strV nm) = some (.string nm) := by
  have := keyOf_string_mk (P := Tryd.prog) Tryd.underlying9 (s := ⟨nm.toArray⟩) (by show nm.toArray.size ≤ maxLen; simp only [maxLen, List.size_toArray]; omega)
  simpa using this
/-- what the names mean -/
def envOf (M : List UInt8 → Option (Nat → Bool)) : List UInt8 → Nat → Bool := fun nm => (M nm).getD noS
section
variable {w : World} {mb n c : Nat} {M : List UInt8 → Option (Nat → Bool)}
theorem look_mask (hM : Mp.Is w Tryd.prog 9 mb n c (envF M)) {nm : List UInt8} (h : nm.length ≤ 9223372036854775807) :
    (Instr.lookup 79 (.map (some mb)) (strV nm) false).run Tryd.prog w = .ok (.agg (maskA (setW (envOf M nm)))) w := by
  have := hM.look (string_keyed Tryd.underlying9) Tryd.underlying79 (zero_mask w) (key_str h)
  rw [this]
  have e : envF M (.string nm) = (M nm).map fun p => .agg (maskA (setW p)) := rfl
  rw [e]
  unfold envOf
  cases M nm with
  | none =>
    have e2 : maskA (setW noS) = maskA (fun _ => 0) := zero_set
    simp only [Option.map_none, Option.getD_none, e2]
  | some p => rfl
theorem store_mask (hM : Mp.Is w Tryd.prog 9 mb n c (envF M)) {nm : List UInt8} {p : Nat → Bool} (hn : n < 1000000) (h : nm.length ≤ 9223372036854775807) :
    ∃ w' c', (Instr.mapUpdate 79 (.map (some mb)) (strV nm) (.agg (maskA (setW p)))).run Tryd.prog w = .ok () w' ∧ Mp.Is w' Tryd.prog 9 mb (n + 1) c' (envF (putM M nm p)) ∧ w.grownBy w' (some mb) := by
  obtain ⟨w', hr, hI, hg⟩ := hM.store (val := .agg (maskA (setW p))) (string_keyed Tryd.underlying9) Tryd.underlying79 (by simp only [maxLen]; omega) (key_str h)
  rw [put_envF] at hI
  exact ⟨w', _, hr, hI, hg⟩
end

/-- what the walk of a day's expressions leans on: the day, the map of masks -/
structure DayAt (w : World) (db : Nat) (day : Int) (mb n c : Nat) (M : List UInt8 → Option (Nat → Bool)) : Prop where
  d1 : w.cell? ⟨db, 1, none⟩ = some (.int .i64 day)
  d2 : w.cell? ⟨db, 2, none⟩ = some (.map (some mb))
  lt : db < w.heap.size
  mlt : mb < w.heap.size
  map : Mp.Is w Tryd.prog 9 mb n c (envF M)
theorem DayAt.below {w w' : World} {db mb n c : Nat} {day : Int} {M : List UInt8 → Option (Nat → Bool)} (h : DayAt w db day mb n c M) {B : Nat} (hb : Below B w w') (hB : w.heap.size ≤ B) : DayAt w' db day mb n c M := by
  have h1 := h.lt
  have h2 := h.mlt
  have h3 := hb.size
  exact ⟨(hb.cell (p := ⟨db, _, none⟩) (by show db < B; omega)).trans h.d1, (hb.cell (p := ⟨db, _, none⟩) (by show db < B; omega)).trans h.d2, by omega, by omega, h.map.below hb (by omega)⟩
theorem mask_put {w : World} {g : Nat} {t : TypeId} (f : Nat → Nat) (p : Nat → Bool) (h : Blk w g t (maskA f)) : cellsAt (w.setRow g (maskA (setW p))) g 0 23 = some (maskA (setW p)) := blk_cells (h.setRow _)

def MeanPost (wd : Nat) (day : Int) (M : List UInt8 → Option (Nat → Bool)) (e : Expr) (w : World) (r : Ending) (w' : World) : Prop := r = .returned (.agg (maskA (setW (meanE wd day (envOf M) e)))) ∧ Below w.heap.size w w'
/-- what is said of all smaller expressions -/
def MeanAll (wd : Nat) (day : Int) (M : List UInt8 → Option (Nat → Bool)) (N : Nat) : Prop := ∀ (e : Expr) (w : World) (gs b o db mb n c : Nat), nodesE e ≤ N → GoodE e → ExprAt w gs b o e → b < gs → gs ≤ w.heap.size → DayAt w db day mb n c M →
    Calls Tryd.prog 29 #[.pointer (some ⟨db, 0, none⟩), .pointer (some ⟨b, o, none⟩)] w (MeanPost wd day M e w)

set_option maxRecDepth 100000 in
set_option maxHeartbeats 4000000 in
theorem expr_1 (wd : Nat) (day : Int) (M : List UInt8 → Option (Nat → Bool)) (x y : Int) (nm : List UInt8) (kids : List Expr) (w : World) (gs b o db mb n c : Nat)
    (hg : GoodE (.mk 1 x y nm kids)) (he : ExprAt w gs b o (.mk 1 x y nm kids)) (hb : b < gs) (hgs : gs ≤ w.heap.size) (hD : DayAt w db day mb n c M) :
    Calls Tryd.prog 29 #[.pointer (some ⟨db, 0, none⟩), .pointer (some ⟨b, o, none⟩)] w (MeanPost wd day M (.mk 1 x y nm kids) w) := by
  obtain ⟨k0, k1, k2, k3, hnl, A, cap, k4, hkl, hkv⟩ := he.out
  have hof := own_facts hg.own
  simp only [Expr.kind, Expr.a, Expr.b, Expr.name, Expr.kids] at k0 k1 k2 k3 k4 hnl hkl hkv hof
  obtain ⟨-, -, hlen, -⟩ := hof
  have d1 := hD.d1
  have d2 := hD.d2
  have zd := hD.lt
  have zb : b < w.heap.size := by omega
  have hmean : meanE wd day (envOf M) (.mk 1 x y nm kids) = meanK wd day 1 x y (envOf M nm) (meanL wd day (envOf M) kids) := by rw [meanE]
  have B0 := Blk.new w 38 (maskA fun _ => 0)
  have hbA : Below w.heap.size w (w.alloc (.cells (maskA fun _ => 0) 38)) := (Below.refl _ _).alloc (Nat.le_refl _) _
  clear he
  have hres := Lib.hid (show meanE wd day (envOf M) (.mk 1 x y nm kids) = noS by rw [hmean]; rfl)
  have k7 := blk_free B0
  have k8 := mask_put _ noS B0
  have e9 : maskA (setW noS) = maskA (fun _ => 0) := zero_set
  rw [e9] at k8
  clear hmean hg hD hkv
  go_enter Tryd.func29, Tryd.ntmps29
  go_wp2
  refine bodyPost_ret (v := .agg (maskA fun _ => 0)) ?_ rfl ⟨by rw [hres.out, e9], (by repeat (first | exact Below.refl _ _ | assumption | refine Below.n _ ?_ (by first | omega | (simp; done) | (simp; omega)) | refine Below.alloc ?_ (by first | omega | (simp; done) | (simp; omega)) _ | refine Below.setCell ?_ (by first | omega | (simp; done) | (simp; omega)) _ | refine Below.drew ?_ | refine Below.setRow ?_ (by first | omega | (simp; done) | (simp; omega)) _ | refine Below.drewN ?_ _))⟩
  simp [results, Tryd.results29, go_sem, k8]

set_option maxRecDepth 100000 in
set_option maxHeartbeats 4000000 in
theorem expr_2 (wd : Nat) (day : Int) (M : List UInt8 → Option (Nat → Bool)) (x y : Int) (nm : List UInt8) (kids : List Expr) (w : World) (gs b o db mb n c : Nat)
    (hg : GoodE (.mk 2 x y nm kids)) (he : ExprAt w gs b o (.mk 2 x y nm kids)) (hb : b < gs) (hgs : gs ≤ w.heap.size) (hD : DayAt w db day mb n c M) :
    Calls Tryd.prog 29 #[.pointer (some ⟨db, 0, none⟩), .pointer (some ⟨b, o, none⟩)] w (MeanPost wd day M (.mk 2 x y nm kids) w) := by
  obtain ⟨k0, k1, k2, k3, hnl, A, cap, k4, hkl, hkv⟩ := he.out
  have hof := own_facts hg.own
  simp only [Expr.kind, Expr.a, Expr.b, Expr.name, Expr.kids] at k0 k1 k2 k3 k4 hnl hkl hkv hof
  obtain ⟨-, -, hlen, -⟩ := hof
  have d1 := hD.d1
  have d2 := hD.d2
  have zd := hD.lt
  have zb : b < w.heap.size := by omega
  have hmean : meanE wd day (envOf M) (.mk 2 x y nm kids) = meanK wd day 2 x y (envOf M nm) (meanL wd day (envOf M) kids) := by rw [meanE]
  have B0 := Blk.new w 38 (maskA fun _ => 0)
  have hbA : Below w.heap.size w (w.alloc (.cells (maskA fun _ => 0) 38)) := (Below.refl _ _).alloc (Nat.le_refl _) _
  clear he
  have hres := Lib.hid (show meanE wd day (envOf M) (.mk 2 x y nm kids) = inSpans [(0, 1440)] by rw [hmean]; rfl)
  clear hmean hg hD hkv
  go_enter Tryd.func29, Tryd.ntmps29
  go_wp2_with fail
  refine (SOf _ [(0, 1440)] _ (SpansV.one (by simp) (by simp))).mono ?_
  rintro e w1 ⟨rfl, hb1⟩
  obtain ⟨n1, rfl⟩ := After.of hb1
  have s1 := n1.size
  simp at s1
  have B2 := (B0.alloc (.cells #[.int .i64 0, .int .i64 1440] 108)).after n1 (by simp; omega)
  have k7 := blk_free B2
  go_wp2
  refine bodyPost_ret (v := .agg (maskA (setW (inSpans [(0, 1440)])))) ?_ rfl ⟨by rw [hres.out], (by repeat (first | exact Below.refl _ _ | assumption | refine Below.n _ ?_ (by first | omega | (simp; done) | (simp; omega)) | refine Below.alloc ?_ (by first | omega | (simp; done) | (simp; omega)) _ | refine Below.setCell ?_ (by first | omega | (simp; done) | (simp; omega)) _ | refine Below.drew ?_ | refine Below.setRow ?_ (by first | omega | (simp; done) | (simp; omega)) _ | refine Below.drewN ?_ _))⟩
  have k8 := mask_put _ (inSpans [(0, 1440)]) B2
  simp [results, Tryd.results29, go_sem, k8]

set_option maxRecDepth 100000 in
set_option maxHeartbeats 4000000 in
theorem expr_3 (wd : Nat) (day : Int) (M : List UInt8 → Option (Nat → Bool)) (x y : Int) (nm : List UInt8) (kids : List Expr) (w : World) (gs b o db mb n c : Nat)
    (hg : GoodE (.mk 3 x y nm kids)) (he : ExprAt w gs b o (.mk 3 x y nm kids)) (hb : b < gs) (hgs : gs ≤ w.heap.size) (hD : DayAt w db day mb n c M) :
    Calls Tryd.prog 29 #[.pointer (some ⟨db, 0, none⟩), .pointer (some ⟨b, o, none⟩)] w (MeanPost wd day M (.mk 3 x y nm kids) w) := by
  obtain ⟨k0, k1, k2, k3, hnl, A, cap, k4, hkl, hkv⟩ := he.out
  have hof := own_facts hg.own
  simp only [Expr.kind, Expr.a, Expr.b, Expr.name, Expr.kids] at k0 k1 k2 k3 k4 hnl hkl hkv hof
  obtain ⟨-, -, hlen, -⟩ := hof
  have d1 := hD.d1
  have d2 := hD.d2
  have zd := hD.lt
  have zb : b < w.heap.size := by omega
  have hmean : meanE wd day (envOf M) (.mk 3 x y nm kids) = meanK wd day 3 x y (envOf M nm) (meanL wd day (envOf M) kids) := by rw [meanE]
  have B0 := Blk.new w 38 (maskA fun _ => 0)
  have hbA : Below w.heap.size w (w.alloc (.cells (maskA fun _ => 0) 38)) := (Below.refl _ _).alloc (Nat.le_refl _) _
  clear he
  have hres := Lib.hid (show meanE wd day (envOf M) (.mk 3 x y nm kids) = inSpans [(x, y)] by rw [hmean]; rfl)
  clear hmean hg hD hkv
  go_enter Tryd.func29, Tryd.ntmps29
  go_wp2_with fail
  refine wp_region_below_tail 9 (w.heap.size + 1) _ (Below.refl _ _) (by kernel_rfl) (by kernel_rfl) ?_
  simp only [List.take_succ_cons, List.take_zero, List.drop_succ_cons, List.drop_zero]
  iterate 9 (go_big_quiet_step ((fail)))
  refine wpQuiet_nil ?_
  rintro _ ⟨m1, rfl⟩
  change wpList _ _ _ _ _ _
  have B1 := B0.after m1 (by simp)
  have s1 := m1.size
  simp at s1
  go_wp2_with (go_at_call 56; refine (SOf _ [(x, y)] _ (SpansV.one rfl (by simp))).mono ?_; rintro e w1 ⟨rfl, hb1⟩; have s2 := hb1.size; simp at s2; have B2 := (B1.alloc (.cells #[.int .i64 x, .int .i64 y] 108)).below hb1 (by simp; omega); have k7 := blk_free B2)
  refine bodyPost_ret (v := .agg (maskA (setW (inSpans [(x, y)])))) ?_ rfl ⟨by rw [hres.out], ?_⟩
  · have k8 := mask_put _ (inSpans [(x, y)]) B2
    simp [results, Tryd.results29, go_sem, k8]
  · exact Below.setRow ((((hbA.trans (m1.below.mono (by omega))).alloc (by omega) _)).trans (hb1.mono (by simp; omega))) (Nat.le_refl _) _

set_option maxRecDepth 100000 in
set_option maxHeartbeats 4000000 in
theorem expr_4 (wd : Nat) (day : Int) (hd0 : 0 ≤ day) (hd1 : day < 146097) (hwd : Civ.weekI day = (wd : Nat)) (M : List UInt8 → Option (Nat → Bool)) (N : Nat) (ih : MeanAll wd day M N) (x y : Int) (nm : List UInt8) (kids : List Expr) (w : World) (gs b o db mb n c : Nat)
    (hN : nodesL kids ≤ N) (hg : GoodE (.mk 4 x y nm kids)) (he : ExprAt w gs b o (.mk 4 x y nm kids)) (hb : b < gs) (hgs : gs ≤ w.heap.size) (hD : DayAt w db day mb n c M) :
    Calls Tryd.prog 29 #[.pointer (some ⟨db, 0, none⟩), .pointer (some ⟨b, o, none⟩)] w (MeanPost wd day M (.mk 4 x y nm kids) w) := by
  obtain ⟨k0, k1, k2, k3, hnl, A, cap, k4, hkl, hkv⟩ := he.out
  have hof := own_facts hg.own
  simp only [Expr.kind, Expr.a, Expr.b, Expr.name, Expr.kids] at k0 k1 k2 k3 k4 hnl hkl hkv hof
  obtain ⟨-, -, hlen, -⟩ := hof
  have d1 := hD.d1
  have d2 := hD.d2
  have zd := hD.lt
  have zb : b < w.heap.size := by omega
  have hmean : meanE wd day (envOf M) (.mk 4 x y nm kids) = meanK wd day 4 x y (envOf M nm) (meanL wd day (envOf M) kids) := by rw [meanE]
  have B0 := Blk.new w 38 (maskA fun _ => 0)
  have hbA : Below w.heap.size w (w.alloc (.cells (maskA fun _ => 0) 38)) := (Below.refl _ _).alloc (Nat.le_refl _) _
  clear he
  obtain ⟨e1, rfl⟩ := kids_one hlen
  clear hlen
  obtain ⟨kb, ko, rfl, hkb, hke⟩ := hkv.at' (i := 0) (e := e1) rfl
  have hn1 : nodesE e1 ≤ N := by have := nodesE_kid (l := [e1]) (i := 0) (e := e1) rfl; omega
  have hg1 := hg.kid (i := 0) (k := e1) rfl
  have hE1 := Lib.hid (fun m : After (w.heap.size + 1) (w.alloc (.cells (maskA fun _ => 0) 38)) => show Calls Tryd.prog 29 #[.pointer (some ⟨db, 0, none⟩), .pointer (some ⟨kb, ko, none⟩)] m.w (fun r w' => r = .returned (.agg (maskA (setW (meanE wd day (envOf M) e1)))) ∧ Below m.w.heap.size m.w w') from by have hW := hbA.trans (m.below.mono (show w.heap.size ≤ w.heap.size + 1 by omega)); have := ih e1 m.w gs kb (ko + 0 * 5) db mb n c hn1 hg1 (hke.below hW hgs (Nat.le_refl _) (by omega)) hkb (by have := hW.size; omega) (hD.below hW (Nat.le_refl _)); exact this)
  have hG : meanE wd day (envOf M) (.mk 4 x y nm [e1]) = if (bits BinOp.and IntKind.i64 (x / 2 ^ wd) 1 == 1) = true then meanE wd day (envOf M) e1 else noS := by rw [hmean, meanL, meanL]; rfl
  replace hG := Lib.hid hG
  generalize meanE wd day (envOf M) e1 = p1 at *
  have hw7 : wd ≤ 6 := by have : Civ.weekI day = (day + 5) % 7 := rfl; omega
  have hmn : min wd 64 = wd := by omega
  have hW := Lib.hid (fun W => show Calls Tryd.prog 57 #[.int .i64 day] W (fun e w' => e = .returned (.int .i64 (wd : Nat)) ∧ W = w') from by have := Wk.Week_any day W (by omega) (by omega); rwa [hwd] at this)
  clear hmean hg hD hkv ih hke hg1
  go_enter Tryd.func29, Tryd.ntmps29
  go_wp2_with fail
  refine wp_region_below (w.heap.size + 1) _ (Below.refl _ _) (by kernel_rfl) (by kernel_rfl) ?_
  repeat (go_big_quiet_step (((go_at_call 57; exact quiet_same (hW.out _)))))
  refine wpQuiet_nil ?_
  rintro _ ⟨n1, rfl⟩
  have B1 := B0.after n1 (by simp)
  have s1 := n1.size
  simp at s1
  have hb1 : Below w.heap.size w n1.w := hbA.trans (n1.below.mono (by omega))
  have q4 : n1.w.cell? ⟨b, o + 4, none⟩ = some (.slice (some ⟨kb, ko, none⟩) 1 cap) := (hb1.cell (p := ⟨b, _, none⟩) zb).trans k4
  cases hgb : (bits BinOp.and IntKind.i64 (x / 2 ^ wd) 1 == 1) with
  | true =>
    have hG1 := Lib.hid (hG.out.trans (if_pos hgb))
    clear hgb
    go_wp2_with (go_at_call 29; refine (hE1.out n1).mono ?_; rintro e w2 ⟨rfl, hb2⟩; have B2 := B1.below hb2 (by omega); have k7 := blk_free B2)
    have k8 := mask_put _ p1 B2
    refine bodyPost_ret (v := .agg (maskA (setW p1))) ?_ rfl ⟨by rw [hG1.out], Below.setRow (hb1.trans (hb2.mono (by omega))) (Nat.le_refl _) _⟩
    simp [results, Tryd.results29, go_sem, k8]
  | false =>
    have hG1 := Lib.hid (hG.out.trans (if_neg (by rw [hgb]; decide)))
    clear hgb
    have k7 := blk_free B1
    have k8 := mask_put _ noS B1
    have e9 : maskA (setW noS) = maskA (fun _ => 0) := zero_set
    rw [e9] at k8
    go_wp2
    refine bodyPost_ret (v := .agg (maskA fun _ => 0)) ?_ rfl ⟨by rw [hG1.out, e9], Below.setRow hb1 (Nat.le_refl _) _⟩
    simp [results, Tryd.results29, go_sem, k8]

set_option maxRecDepth 100000 in
set_option maxHeartbeats 4000000 in
theorem expr_5 (wd : Nat) (day : Int) (M : List UInt8 → Option (Nat → Bool)) (N : Nat) (ih : MeanAll wd day M N) (x y : Int) (nm : List UInt8) (kids : List Expr) (w : World) (gs b o db mb n c : Nat)
    (hN : nodesL kids ≤ N) (hg : GoodE (.mk 5 x y nm kids)) (he : ExprAt w gs b o (.mk 5 x y nm kids)) (hb : b < gs) (hgs : gs ≤ w.heap.size) (hD : DayAt w db day mb n c M) :
    Calls Tryd.prog 29 #[.pointer (some ⟨db, 0, none⟩), .pointer (some ⟨b, o, none⟩)] w (MeanPost wd day M (.mk 5 x y nm kids) w) := by
  obtain ⟨k0, k1, k2, k3, hnl, A, cap, k4, hkl, hkv⟩ := he.out
  have hof := own_facts hg.own
  simp only [Expr.kind, Expr.a, Expr.b, Expr.name, Expr.kids] at k0 k1 k2 k3 k4 hnl hkl hkv hof
  obtain ⟨-, -, hlen, -⟩ := hof
  have d1 := hD.d1
  have d2 := hD.d2
  have zd := hD.lt
  have zb : b < w.heap.size := by omega
  have hmean : meanE wd day (envOf M) (.mk 5 x y nm kids) = meanK wd day 5 x y (envOf M nm) (meanL wd day (envOf M) kids) := by rw [meanE]
  have B0 := Blk.new w 38 (maskA fun _ => 0)
  have hbA : Below w.heap.size w (w.alloc (.cells (maskA fun _ => 0) 38)) := (Below.refl _ _).alloc (Nat.le_refl _) _
  clear he
  obtain ⟨e1, rfl⟩ := kids_one hlen
  clear hlen
  obtain ⟨kb, ko, rfl, hkb, hke⟩ := hkv.at' (i := 0) (e := e1) rfl
  have hn1 : nodesE e1 ≤ N := by have := nodesE_kid (l := [e1]) (i := 0) (e := e1) rfl; omega
  have hg1 := hg.kid (i := 0) (k := e1) rfl
  have hE1 := Lib.hid (fun m : After (w.heap.size + 1) (w.alloc (.cells (maskA fun _ => 0) 38)) => show Calls Tryd.prog 29 #[.pointer (some ⟨db, 0, none⟩), .pointer (some ⟨kb, ko, none⟩)] m.w (fun r w' => r = .returned (.agg (maskA (setW (meanE wd day (envOf M) e1)))) ∧ Below m.w.heap.size m.w w') from by have hW := hbA.trans (m.below.mono (show w.heap.size ≤ w.heap.size + 1 by omega)); have := ih e1 m.w gs kb (ko + 0 * 5) db mb n c hn1 hg1 (hke.below hW hgs (Nat.le_refl _) (by omega)) hkb (by have := hW.size; omega) (hD.below hW (Nat.le_refl _)); exact this)
  have hG : meanE wd day (envOf M) (.mk 5 x y nm [e1]) = if (decide (x ≤ day) && decide (day ≤ y)) = true then meanE wd day (envOf M) e1 else noS := by rw [hmean, meanL, meanL]; rfl
  replace hG := Lib.hid hG
  generalize meanE wd day (envOf M) e1 = p1 at *
  clear hmean hg hD hkv ih hke hg1
  go_enter Tryd.func29, Tryd.ntmps29
  rcases dec (x ≤ day) with ⟨q1, _⟩ | ⟨q1, _⟩
  · rcases dec (day ≤ y) with ⟨q2, _⟩ | ⟨q2, _⟩
    · have hgb : (decide (x ≤ day) && decide (day ≤ y)) = true := by rw [q1, q2]; rfl
      go_wp2_with fail
      refine wp_region_below (w.heap.size + 1) _ (Below.refl _ _) (by kernel_rfl) (by kernel_rfl) ?_
      repeat (go_big_quiet_step ((fail)))
      refine wpQuiet_nil ?_
      rintro _ ⟨n1, rfl⟩
      have B1 := B0.after n1 (by simp)
      have s1 := n1.size
      simp at s1
      have hb1 : Below w.heap.size w n1.w := hbA.trans (n1.below.mono (by omega))
      have q4 : n1.w.cell? ⟨b, o + 4, none⟩ = some (.slice (some ⟨kb, ko, none⟩) 1 cap) := (hb1.cell (p := ⟨b, _, none⟩) zb).trans k4
      have hG1 := Lib.hid (hG.out.trans (if_pos hgb))
      clear hgb
      go_wp2_with (go_at_call 29; refine (hE1.out n1).mono ?_; rintro e w2 ⟨rfl, hb2⟩; have B2 := B1.below hb2 (by omega); have k7 := blk_free B2)
      have k8 := mask_put _ p1 B2
      refine bodyPost_ret (v := .agg (maskA (setW p1))) ?_ rfl ⟨by rw [hG1.out], Below.setRow (hb1.trans (hb2.mono (by omega))) (Nat.le_refl _) _⟩
      simp [results, Tryd.results29, go_sem, k8]
    · have hgb : (decide (x ≤ day) && decide (day ≤ y)) = false := by rw [q1, q2]; rfl
      go_wp2_with fail
      refine wp_region_below (w.heap.size + 1) _ (Below.refl _ _) (by kernel_rfl) (by kernel_rfl) ?_
      repeat (go_big_quiet_step ((fail)))
      refine wpQuiet_nil ?_
      rintro _ ⟨n1, rfl⟩
      have B1 := B0.after n1 (by simp)
      have s1 := n1.size
      simp at s1
      have hb1 : Below w.heap.size w n1.w := hbA.trans (n1.below.mono (by omega))
      have q4 : n1.w.cell? ⟨b, o + 4, none⟩ = some (.slice (some ⟨kb, ko, none⟩) 1 cap) := (hb1.cell (p := ⟨b, _, none⟩) zb).trans k4
      have hG1 := Lib.hid (hG.out.trans (if_neg (by rw [hgb]; decide)))
      clear hgb
      have k7 := blk_free B1
      have k8 := mask_put _ noS B1
      have e9 : maskA (setW noS) = maskA (fun _ => 0) := zero_set
      rw [e9] at k8
      go_wp2
      refine bodyPost_ret (v := .agg (maskA fun _ => 0)) ?_ rfl ⟨by rw [hG1.out, e9], Below.setRow hb1 (Nat.le_refl _) _⟩
      simp [results, Tryd.results29, go_sem, k8]
  · have hgb : (decide (x ≤ day) && decide (day ≤ y)) = false := by rw [q1]; rfl
    go_wp2_with fail
    refine wp_region_below (w.heap.size + 1) _ (Below.refl _ _) (by kernel_rfl) (by kernel_rfl) ?_
    repeat (go_big_quiet_step ((fail)))
    refine wpQuiet_nil ?_
    rintro _ ⟨n1, rfl⟩
    have B1 := B0.after n1 (by simp)
    have s1 := n1.size
    simp at s1
    have hb1 : Below w.heap.size w n1.w := hbA.trans (n1.below.mono (by omega))
    have q4 : n1.w.cell? ⟨b, o + 4, none⟩ = some (.slice (some ⟨kb, ko, none⟩) 1 cap) := (hb1.cell (p := ⟨b, _, none⟩) zb).trans k4
    have hG1 := Lib.hid (hG.out.trans (if_neg (by rw [hgb]; decide)))
    clear hgb
    have k7 := blk_free B1
    have k8 := mask_put _ noS B1
    have e9 : maskA (setW noS) = maskA (fun _ => 0) := zero_set
    rw [e9] at k8
    go_wp2
    refine bodyPost_ret (v := .agg (maskA fun _ => 0)) ?_ rfl ⟨by rw [hG1.out, e9], Below.setRow hb1 (Nat.le_refl _) _⟩
    simp [results, Tryd.results29, go_sem, k8]

set_option maxRecDepth 100000 in
set_option maxHeartbeats 4000000 in
theorem expr_6 (wd : Nat) (day : Int) (M : List UInt8 → Option (Nat → Bool)) (N : Nat) (ih : MeanAll wd day M N) (x y : Int) (nm : List UInt8) (kids : List Expr) (w : World) (gs b o db mb n c : Nat)
    (hN : nodesL kids ≤ N) (hg : GoodE (.mk 6 x y nm kids)) (he : ExprAt w gs b o (.mk 6 x y nm kids)) (hb : b < gs) (hgs : gs ≤ w.heap.size) (hD : DayAt w db day mb n c M) :
    Calls Tryd.prog 29 #[.pointer (some ⟨db, 0, none⟩), .pointer (some ⟨b, o, none⟩)] w (MeanPost wd day M (.mk 6 x y nm kids) w) := by
  obtain ⟨k0, k1, k2, k3, hnl, A, cap, k4, hkl, hkv⟩ := he.out
  have hof := own_facts hg.own
  simp only [Expr.kind, Expr.a, Expr.b, Expr.name, Expr.kids] at k0 k1 k2 k3 k4 hnl hkl hkv hof
  obtain ⟨-, -, hlen, -⟩ := hof
  have d1 := hD.d1
  have d2 := hD.d2
  have zd := hD.lt
  have zb : b < w.heap.size := by omega
  have hmean : meanE wd day (envOf M) (.mk 6 x y nm kids) = meanK wd day 6 x y (envOf M nm) (meanL wd day (envOf M) kids) := by rw [meanE]
  have B0 := Blk.new w 38 (maskA fun _ => 0)
  have hbA : Below w.heap.size w (w.alloc (.cells (maskA fun _ => 0) 38)) := (Below.refl _ _).alloc (Nat.le_refl _) _
  clear he
  obtain ⟨e1, e2, rfl⟩ := kids_two hlen
  clear hlen
  obtain ⟨kb, ko, rfl, hkb, hke⟩ := hkv.at' (i := 0) (e := e1) rfl
  obtain ⟨kb', ko', hee, _, hkf⟩ := hkv.at' (i := 1) (e := e2) rfl
  cases hee
  have hn1 : nodesE e1 ≤ N := by have := nodesE_kid (l := [e1, e2]) (i := 0) (e := e1) rfl; omega
  have hn2 : nodesE e2 ≤ N := by have := nodesE_kid (l := [e1, e2]) (i := 1) (e := e2) rfl; omega
  have hg1 := hg.kid (i := 0) (k := e1) rfl
  have hg2 := hg.kid (i := 1) (k := e2) rfl
  have hE1 := Lib.hid (fun m : After (w.heap.size + 1) (w.alloc (.cells (maskA fun _ => 0) 38)) => show Calls Tryd.prog 29 #[.pointer (some ⟨db, 0, none⟩), .pointer (some ⟨kb, ko, none⟩)] m.w (fun r w' => r = .returned (.agg (maskA (setW (meanE wd day (envOf M) e1)))) ∧ Below m.w.heap.size m.w w') from by have hW := hbA.trans (m.below.mono (show w.heap.size ≤ w.heap.size + 1 by omega)); have := ih e1 m.w gs kb (ko + 0 * 5) db mb n c hn1 hg1 (hke.below hW hgs (Nat.le_refl _) (by omega)) hkb (by have := hW.size; omega) (hD.below hW (Nat.le_refl _)); exact this)
  have hE2 := Lib.hid (fun m : After (w.heap.size + 1) (w.alloc (.cells (maskA fun _ => 0) 38)) => show Calls Tryd.prog 29 #[.pointer (some ⟨db, 0, none⟩), .pointer (some ⟨kb, ko + 5, none⟩)] m.w (fun r w' => r = .returned (.agg (maskA (setW (meanE wd day (envOf M) e2)))) ∧ Below m.w.heap.size m.w w') from by have hW := hbA.trans (m.below.mono (show w.heap.size ≤ w.heap.size + 1 by omega)); have := ih e2 m.w gs kb (ko + 1 * 5) db mb n c hn2 hg2 (hkf.below hW hgs (Nat.le_refl _) (by omega)) hkb (by have := hW.size; omega) (hD.below hW (Nat.le_refl _)); exact this)
  have hG : meanE wd day (envOf M) (.mk 6 x y nm [e1, e2]) = orS (meanE wd day (envOf M) e1) (meanE wd day (envOf M) e2) := by rw [hmean, meanL, meanL, meanL]; rfl
  replace hG := Lib.hid hG
  generalize meanE wd day (envOf M) e1 = p1 at *
  generalize meanE wd day (envOf M) e2 = p2 at *
  clear hmean hg hD hkv ih hke hkf hg1 hg2
  go_enter Tryd.func29, Tryd.ntmps29
  go_wp2_with fail
  refine wp_region_below_tail 15 (w.heap.size + 1) _ (Below.refl _ _) (by kernel_rfl) (by kernel_rfl) ?_
  simp only [List.take_succ_cons, List.take_zero, List.drop_succ_cons, List.drop_zero]
  iterate 15 (go_big_quiet_step (((first | (go_at_call 29; first | with_reducible exact quiet_below (by simp) (hE1.out _) | with_reducible exact quiet_below (by simp) (hE2.out _)) | (go_at_call 58; exact quiet_below (by simp) (SUnion p1 p2 _))))))
  refine wpQuiet_nil ?_
  rintro _ ⟨m1, rfl⟩
  change wpList _ _ _ _ _ _
  have B1 := B0.after m1 (by simp)
  have hb1 : Below w.heap.size w m1.w := hbA.trans (m1.below.mono (by omega))
  have k7 := blk_free B1
  have k8 := mask_put _ (orS p1 p2) B1
  go_wp2
  refine bodyPost_ret (v := .agg (maskA (setW (orS p1 p2)))) ?_ rfl ⟨by rw [hG.out], Below.setRow hb1 (Nat.le_refl _) _⟩
  simp [results, Tryd.results29, go_sem, k8]

set_option maxRecDepth 100000 in
set_option maxHeartbeats 4000000 in
theorem expr_7 (wd : Nat) (day : Int) (M : List UInt8 → Option (Nat → Bool)) (N : Nat) (ih : MeanAll wd day M N) (x y : Int) (nm : List UInt8) (kids : List Expr) (w : World) (gs b o db mb n c : Nat)
    (hN : nodesL kids ≤ N) (hg : GoodE (.mk 7 x y nm kids)) (he : ExprAt w gs b o (.mk 7 x y nm kids)) (hb : b < gs) (hgs : gs ≤ w.heap.size) (hD : DayAt w db day mb n c M) :
    Calls Tryd.prog 29 #[.pointer (some ⟨db, 0, none⟩), .pointer (some ⟨b, o, none⟩)] w (MeanPost wd day M (.mk 7 x y nm kids) w) := by
  obtain ⟨k0, k1, k2, k3, hnl, A, cap, k4, hkl, hkv⟩ := he.out
  have hof := own_facts hg.own
  simp only [Expr.kind, Expr.a, Expr.b, Expr.name, Expr.kids] at k0 k1 k2 k3 k4 hnl hkl hkv hof
  obtain ⟨-, -, hlen, -⟩ := hof
  have d1 := hD.d1
  have d2 := hD.d2
  have zd := hD.lt
  have zb : b < w.heap.size := by omega
  have hmean : meanE wd day (envOf M) (.mk 7 x y nm kids) = meanK wd day 7 x y (envOf M nm) (meanL wd day (envOf M) kids) := by rw [meanE]
  have B0 := Blk.new w 38 (maskA fun _ => 0)
  have hbA : Below w.heap.size w (w.alloc (.cells (maskA fun _ => 0) 38)) := (Below.refl _ _).alloc (Nat.le_refl _) _
  clear he
  obtain ⟨e1, e2, rfl⟩ := kids_two hlen
  clear hlen
  obtain ⟨kb, ko, rfl, hkb, hke⟩ := hkv.at' (i := 0) (e := e1) rfl
  obtain ⟨kb', ko', hee, _, hkf⟩ := hkv.at' (i := 1) (e := e2) rfl
  cases hee
  have hn1 : nodesE e1 ≤ N := by have := nodesE_kid (l := [e1, e2]) (i := 0) (e := e1) rfl; omega
  have hn2 : nodesE e2 ≤ N := by have := nodesE_kid (l := [e1, e2]) (i := 1) (e := e2) rfl; omega
  have hg1 := hg.kid (i := 0) (k := e1) rfl
  have hg2 := hg.kid (i := 1) (k := e2) rfl
  have hE1 := Lib.hid (fun m : After (w.heap.size + 1) (w.alloc (.cells (maskA fun _ => 0) 38)) => show Calls Tryd.prog 29 #[.pointer (some ⟨db, 0, none⟩), .pointer (some ⟨kb, ko, none⟩)] m.w (fun r w' => r = .returned (.agg (maskA (setW (meanE wd day (envOf M) e1)))) ∧ Below m.w.heap.size m.w w') from by have hW := hbA.trans (m.below.mono (show w.heap.size ≤ w.heap.size + 1 by omega)); have := ih e1 m.w gs kb (ko + 0 * 5) db mb n c hn1 hg1 (hke.below hW hgs (Nat.le_refl _) (by omega)) hkb (by have := hW.size; omega) (hD.below hW (Nat.le_refl _)); exact this)
  have hE2 := Lib.hid (fun m : After (w.heap.size + 1) (w.alloc (.cells (maskA fun _ => 0) 38)) => show Calls Tryd.prog 29 #[.pointer (some ⟨db, 0, none⟩), .pointer (some ⟨kb, ko + 5, none⟩)] m.w (fun r w' => r = .returned (.agg (maskA (setW (meanE wd day (envOf M) e2)))) ∧ Below m.w.heap.size m.w w') from by have hW := hbA.trans (m.below.mono (show w.heap.size ≤ w.heap.size + 1 by omega)); have := ih e2 m.w gs kb (ko + 1 * 5) db mb n c hn2 hg2 (hkf.below hW hgs (Nat.le_refl _) (by omega)) hkb (by have := hW.size; omega) (hD.below hW (Nat.le_refl _)); exact this)
  have hG : meanE wd day (envOf M) (.mk 7 x y nm [e1, e2]) = sansS (meanE wd day (envOf M) e1) (meanE wd day (envOf M) e2) := by rw [hmean, meanL, meanL, meanL]; rfl
  replace hG := Lib.hid hG
  generalize meanE wd day (envOf M) e1 = p1 at *
  generalize meanE wd day (envOf M) e2 = p2 at *
  clear hmean hg hD hkv ih hke hkf hg1 hg2
  go_enter Tryd.func29, Tryd.ntmps29
  go_wp2_with fail
  refine wp_region_below_tail 15 (w.heap.size + 1) _ (Below.refl _ _) (by kernel_rfl) (by kernel_rfl) ?_
  simp only [List.take_succ_cons, List.take_zero, List.drop_succ_cons, List.drop_zero]
  iterate 15 (go_big_quiet_step (((first | (go_at_call 29; first | with_reducible exact quiet_below (by simp) (hE1.out _) | with_reducible exact quiet_below (by simp) (hE2.out _)) | (go_at_call 59; exact quiet_below (by simp) (SDiff p1 p2 _))))))
  refine wpQuiet_nil ?_
  rintro _ ⟨m1, rfl⟩
  change wpList _ _ _ _ _ _
  have B1 := B0.after m1 (by simp)
  have hb1 : Below w.heap.size w m1.w := hbA.trans (m1.below.mono (by omega))
  have k7 := blk_free B1
  have k8 := mask_put _ (sansS p1 p2) B1
  go_wp2
  refine bodyPost_ret (v := .agg (maskA (setW (sansS p1 p2)))) ?_ rfl ⟨by rw [hG.out], Below.setRow hb1 (Nat.le_refl _) _⟩
  simp [results, Tryd.results29, go_sem, k8]

set_option maxRecDepth 100000 in
set_option maxHeartbeats 4000000 in
theorem expr_8 (wd : Nat) (day : Int) (M : List UInt8 → Option (Nat → Bool)) (N : Nat) (ih : MeanAll wd day M N) (x y : Int) (nm : List UInt8) (kids : List Expr) (w : World) (gs b o db mb n c : Nat)
    (hN : nodesL kids ≤ N) (hg : GoodE (.mk 8 x y nm kids)) (he : ExprAt w gs b o (.mk 8 x y nm kids)) (hb : b < gs) (hgs : gs ≤ w.heap.size) (hD : DayAt w db day mb n c M) :
    Calls Tryd.prog 29 #[.pointer (some ⟨db, 0, none⟩), .pointer (some ⟨b, o, none⟩)] w (MeanPost wd day M (.mk 8 x y nm kids) w) := by
  obtain ⟨k0, k1, k2, k3, hnl, A, cap, k4, hkl, hkv⟩ := he.out
  have hof := own_facts hg.own
  simp only [Expr.kind, Expr.a, Expr.b, Expr.name, Expr.kids] at k0 k1 k2 k3 k4 hnl hkl hkv hof
  obtain ⟨-, -, hlen, -⟩ := hof
  have d1 := hD.d1
  have d2 := hD.d2
  have zd := hD.lt
  have zb : b < w.heap.size := by omega
  have hmean : meanE wd day (envOf M) (.mk 8 x y nm kids) = meanK wd day 8 x y (envOf M nm) (meanL wd day (envOf M) kids) := by rw [meanE]
  have B0 := Blk.new w 38 (maskA fun _ => 0)
  have hbA : Below w.heap.size w (w.alloc (.cells (maskA fun _ => 0) 38)) := (Below.refl _ _).alloc (Nat.le_refl _) _
  clear he
  obtain ⟨e1, e2, rfl⟩ := kids_two hlen
  clear hlen
  obtain ⟨kb, ko, rfl, hkb, hke⟩ := hkv.at' (i := 0) (e := e1) rfl
  obtain ⟨kb', ko', hee, _, hkf⟩ := hkv.at' (i := 1) (e := e2) rfl
  cases hee
  have hn1 : nodesE e1 ≤ N := by have := nodesE_kid (l := [e1, e2]) (i := 0) (e := e1) rfl; omega
  have hn2 : nodesE e2 ≤ N := by have := nodesE_kid (l := [e1, e2]) (i := 1) (e := e2) rfl; omega
  have hg1 := hg.kid (i := 0) (k := e1) rfl
  have hg2 := hg.kid (i := 1) (k := e2) rfl
  have hE1 := Lib.hid (fun m : After (w.heap.size + 1) (w.alloc (.cells (maskA fun _ => 0) 38)) => show Calls Tryd.prog 29 #[.pointer (some ⟨db, 0, none⟩), .pointer (some ⟨kb, ko, none⟩)] m.w (fun r w' => r = .returned (.agg (maskA (setW (meanE wd day (envOf M) e1)))) ∧ Below m.w.heap.size m.w w') from by have hW := hbA.trans (m.below.mono (show w.heap.size ≤ w.heap.size + 1 by omega)); have := ih e1 m.w gs kb (ko + 0 * 5) db mb n c hn1 hg1 (hke.below hW hgs (Nat.le_refl _) (by omega)) hkb (by have := hW.size; omega) (hD.below hW (Nat.le_refl _)); exact this)
  have hE2 := Lib.hid (fun m : After (w.heap.size + 1) (w.alloc (.cells (maskA fun _ => 0) 38)) => show Calls Tryd.prog 29 #[.pointer (some ⟨db, 0, none⟩), .pointer (some ⟨kb, ko + 5, none⟩)] m.w (fun r w' => r = .returned (.agg (maskA (setW (meanE wd day (envOf M) e2)))) ∧ Below m.w.heap.size m.w w') from by have hW := hbA.trans (m.below.mono (show w.heap.size ≤ w.heap.size + 1 by omega)); have := ih e2 m.w gs kb (ko + 1 * 5) db mb n c hn2 hg2 (hkf.below hW hgs (Nat.le_refl _) (by omega)) hkb (by have := hW.size; omega) (hD.below hW (Nat.le_refl _)); exact this)
  have hG : meanE wd day (envOf M) (.mk 8 x y nm [e1, e2]) = andS (meanE wd day (envOf M) e1) (meanE wd day (envOf M) e2) := by rw [hmean, meanL, meanL, meanL]; rfl
  replace hG := Lib.hid hG
  generalize meanE wd day (envOf M) e1 = p1 at *
  generalize meanE wd day (envOf M) e2 = p2 at *
  clear hmean hg hD hkv ih hke hkf hg1 hg2
  go_enter Tryd.func29, Tryd.ntmps29
  go_wp2_with fail
  refine wp_region_below_tail 15 (w.heap.size + 1) _ (Below.refl _ _) (by kernel_rfl) (by kernel_rfl) ?_
  simp only [List.take_succ_cons, List.take_zero, List.drop_succ_cons, List.drop_zero]
  iterate 15 (go_big_quiet_step (((first | (go_at_call 29; first | with_reducible exact quiet_below (by simp) (hE1.out _) | with_reducible exact quiet_below (by simp) (hE2.out _)) | (go_at_call 60; exact quiet_below (by simp) (SBoth p1 p2 _))))))
  refine wpQuiet_nil ?_
  rintro _ ⟨m1, rfl⟩
  change wpList _ _ _ _ _ _
  have B1 := B0.after m1 (by simp)
  have hb1 : Below w.heap.size w m1.w := hbA.trans (m1.below.mono (by omega))
  have k7 := blk_free B1
  have k8 := mask_put _ (andS p1 p2) B1
  go_wp2
  refine bodyPost_ret (v := .agg (maskA (setW (andS p1 p2)))) ?_ rfl ⟨by rw [hG.out], Below.setRow hb1 (Nat.le_refl _) _⟩
  simp [results, Tryd.results29, go_sem, k8]

set_option maxRecDepth 100000 in
set_option maxHeartbeats 4000000 in
theorem expr_9 (wd : Nat) (day : Int) (M : List UInt8 → Option (Nat → Bool)) (N : Nat) (ih : MeanAll wd day M N) (x y : Int) (nm : List UInt8) (kids : List Expr) (w : World) (gs b o db mb n c : Nat)
    (hN : nodesL kids ≤ N) (hg : GoodE (.mk 9 x y nm kids)) (he : ExprAt w gs b o (.mk 9 x y nm kids)) (hb : b < gs) (hgs : gs ≤ w.heap.size) (hD : DayAt w db day mb n c M) :
    Calls Tryd.prog 29 #[.pointer (some ⟨db, 0, none⟩), .pointer (some ⟨b, o, none⟩)] w (MeanPost wd day M (.mk 9 x y nm kids) w) := by
  obtain ⟨k0, k1, k2, k3, hnl, A, cap, k4, hkl, hkv⟩ := he.out
  have hof := own_facts hg.own
  simp only [Expr.kind, Expr.a, Expr.b, Expr.name, Expr.kids] at k0 k1 k2 k3 k4 hnl hkl hkv hof
  obtain ⟨-, -, hlen, -⟩ := hof
  have d1 := hD.d1
  have d2 := hD.d2
  have zd := hD.lt
  have zb : b < w.heap.size := by omega
  have hmean : meanE wd day (envOf M) (.mk 9 x y nm kids) = meanK wd day 9 x y (envOf M nm) (meanL wd day (envOf M) kids) := by rw [meanE]
  have B0 := Blk.new w 38 (maskA fun _ => 0)
  have hbA : Below w.heap.size w (w.alloc (.cells (maskA fun _ => 0) 38)) := (Below.refl _ _).alloc (Nat.le_refl _) _
  clear he
  obtain ⟨e1, rfl⟩ := kids_one hlen
  clear hlen
  obtain ⟨kb, ko, rfl, hkb, hke⟩ := hkv.at' (i := 0) (e := e1) rfl
  have hn1 : nodesE e1 ≤ N := by have := nodesE_kid (l := [e1]) (i := 0) (e := e1) rfl; omega
  have hg1 := hg.kid (i := 0) (k := e1) rfl
  have hE1 := Lib.hid (fun m : After (w.heap.size + 1) (w.alloc (.cells (maskA fun _ => 0) 38)) => show Calls Tryd.prog 29 #[.pointer (some ⟨db, 0, none⟩), .pointer (some ⟨kb, ko, none⟩)] m.w (fun r w' => r = .returned (.agg (maskA (setW (meanE wd day (envOf M) e1)))) ∧ Below m.w.heap.size m.w w') from by have hW := hbA.trans (m.below.mono (show w.heap.size ≤ w.heap.size + 1 by omega)); have := ih e1 m.w gs kb (ko + 0 * 5) db mb n c hn1 hg1 (hke.below hW hgs (Nat.le_refl _) (by omega)) hkb (by have := hW.size; omega) (hD.below hW (Nat.le_refl _)); exact this)
  have hG : meanE wd day (envOf M) (.mk 9 x y nm [e1]) = shS (has (setW (meanE wd day (envOf M) e1))) x := by rw [hmean, meanL, meanL]; rfl
  replace hG := Lib.hid hG
  generalize meanE wd day (envOf M) e1 = p1 at *
  clear hmean hg hD hkv ih hke hg1
  go_enter Tryd.func29, Tryd.ntmps29
  go_wp2_with fail
  refine wp_region_below_tail 12 (w.heap.size + 1) _ (Below.refl _ _) (by kernel_rfl) (by kernel_rfl) ?_
  simp only [List.take_succ_cons, List.take_zero, List.drop_succ_cons, List.drop_zero]
  iterate 12 (go_big_quiet_step (((first | (go_at_call 29; exact quiet_below (by simp) (hE1.out _)) | (go_at_call 61; exact quiet_below (by simp) (SShift p1 x _))))))
  refine wpQuiet_nil ?_
  rintro _ ⟨m1, rfl⟩
  change wpList _ _ _ _ _ _
  have B1 := B0.after m1 (by simp)
  have hb1 : Below w.heap.size w m1.w := hbA.trans (m1.below.mono (by omega))
  have k7 := blk_free B1
  have k8 := mask_put _ (shS (has (setW p1)) x) B1
  go_wp2
  refine bodyPost_ret (v := .agg (maskA (setW (shS (has (setW p1)) x)))) ?_ rfl ⟨by rw [hG.out], Below.setRow hb1 (Nat.le_refl _) _⟩
  simp [results, Tryd.results29, go_sem, k8]

set_option maxRecDepth 100000 in
set_option maxHeartbeats 4000000 in
theorem expr_10 (wd : Nat) (day : Int) (M : List UInt8 → Option (Nat → Bool)) (x y : Int) (nm : List UInt8) (kids : List Expr) (w : World) (gs b o db mb n c : Nat)
    (hg : GoodE (.mk 10 x y nm kids)) (he : ExprAt w gs b o (.mk 10 x y nm kids)) (hb : b < gs) (hgs : gs ≤ w.heap.size) (hD : DayAt w db day mb n c M) :
    Calls Tryd.prog 29 #[.pointer (some ⟨db, 0, none⟩), .pointer (some ⟨b, o, none⟩)] w (MeanPost wd day M (.mk 10 x y nm kids) w) := by
  obtain ⟨k0, k1, k2, k3, hnl, A, cap, k4, hkl, hkv⟩ := he.out
  have hof := own_facts hg.own
  simp only [Expr.kind, Expr.a, Expr.b, Expr.name, Expr.kids] at k0 k1 k2 k3 k4 hnl hkl hkv hof
  obtain ⟨-, -, hlen, -⟩ := hof
  have d1 := hD.d1
  have d2 := hD.d2
  have zd := hD.lt
  have zb : b < w.heap.size := by omega
  have hmean : meanE wd day (envOf M) (.mk 10 x y nm kids) = meanK wd day 10 x y (envOf M nm) (meanL wd day (envOf M) kids) := by rw [meanE]
  have B0 := Blk.new w 38 (maskA fun _ => 0)
  have hbA : Below w.heap.size w (w.alloc (.cells (maskA fun _ => 0) 38)) := (Below.refl _ _).alloc (Nat.le_refl _) _
  clear he
  have hG : meanE wd day (envOf M) (.mk 10 x y nm kids) = envOf M nm := by rw [hmean, meanK_ten]
  replace hG := Lib.hid hG
  have hlk := (fun m : After (w.heap.size + 1) (w.alloc (.cells (maskA fun _ => 0) 38)) => look_mask (((hD.map).alloc (.cells (maskA fun _ => 0) 38)).below m.below (by have := hD.mlt; omega)) (nm := nm) hnl.1)
  generalize envOf M nm = p1 at *
  clear hmean hg hD hkv
  go_enter Tryd.func29, Tryd.ntmps29
  go_wp2_with fail
  refine wp_region_below_tail 9 (w.heap.size + 1) _ (Below.refl _ _) (by kernel_rfl) (by kernel_rfl) ?_
  simp only [List.take_succ_cons, List.take_zero, List.drop_succ_cons, List.drop_zero]
  iterate 9 (go_big_quiet_step ((fail)))
  refine wpQuiet_nil ?_
  rintro _ ⟨m1, rfl⟩
  change wpList _ _ _ _ _ _
  have B1 := B0.after m1 (by simp)
  have hb1 : Below w.heap.size w m1.w := hbA.trans (m1.below.mono (by omega))
  have k7 := blk_free B1
  have k8 := mask_put _ p1 B1
  go_wp2
  refine bodyPost_ret (v := .agg (maskA (setW p1))) ?_ rfl ⟨by rw [hG.out], Below.setRow hb1 (Nat.le_refl _) _⟩
  simp [results, Tryd.results29, go_sem, k8]

theorem expr_all (wd : Nat) (day : Int) (hd0 : 0 ≤ day) (hd1 : day < 146097) (hwd : Civ.weekI day = (wd : Nat)) (M : List UInt8 → Option (Nat → Bool)) : ∀ N, MeanAll wd day M N := by
  intro N
  induction N with
  | zero => intro e w gs b o db mb n c hN; have := nodesE_pos e; omega
  | succ N ih =>
    intro e w gs b o db mb n c hN hg he hb hgs hD
    obtain ⟨k, x, y, nm, kids⟩ := e
    have hof := own_facts hg.own
    simp only [Expr.kind] at hof
    have hn : nodesL kids ≤ N := by rw [nodesE] at hN; omega
    obtain rfl | rfl | rfl | rfl | rfl | rfl | rfl | rfl | rfl | rfl : k = 1 ∨ k = 2 ∨ k = 3 ∨ k = 4 ∨ k = 5 ∨ k = 6 ∨ k = 7 ∨ k = 8 ∨ k = 9 ∨ k = 10 := by omega
    · exact expr_1 wd day M x y nm kids w gs b o db mb n c hg he hb hgs hD
    · exact expr_2 wd day M x y nm kids w gs b o db mb n c hg he hb hgs hD
    · exact expr_3 wd day M x y nm kids w gs b o db mb n c hg he hb hgs hD
    · exact expr_4 wd day hd0 hd1 hwd M N ih x y nm kids w gs b o db mb n c hn hg he hb hgs hD
    · exact expr_5 wd day M N ih x y nm kids w gs b o db mb n c hn hg he hb hgs hD
    · exact expr_6 wd day M N ih x y nm kids w gs b o db mb n c hn hg he hb hgs hD
    · exact expr_7 wd day M N ih x y nm kids w gs b o db mb n c hn hg he hb hgs hD
    · exact expr_8 wd day M N ih x y nm kids w gs b o db mb n c hn hg he hb hgs hD
    · exact expr_9 wd day M N ih x y nm kids w gs b o db mb n c hn hg he hb hgs hD
    · exact expr_10 wd day M x y nm kids w gs b o db mb n c hg he hb hgs hD

end Ru
end Go.Proofs.YtbadplbdgpbdaaaDoor

namespace Go.Proofs.YtbadplbdgpbdaaaDoor
open Go.RowKit
namespace Ru
open Sl (strV Reads IntsV)

/-- places so far: no one twice, each one's behind it -/
structure Ord (d : Nat → List Int) (n : Nat) (o : List Int) : Prop where
  nodup : o.Nodup
  inn : ∀ x ∈ o, ∃ k : Nat, x = k ∧ k < n
  deps : ∀ (p k : Nat), o[p]? = some (k : Int) → ∀ y ∈ d k, y ∈ o.take p
theorem Ord.nil (d : Nat → List Int) (n : Nat) : Ord d n [] := ⟨List.nodup_nil, fun x h => (by cases h), fun p k h => by simp at h⟩
theorem Ord.snoc {d : Nat → List Int} {n : Nat} {o : List Int} (h : Ord d n o) {i : Nat} (hi : i < n) (hn : o.contains (i : Int) = false) (hd : ((d i).any fun y => !o.contains y) = false) : Ord d n (o ++ [(i : Int)]) := by
  refine ⟨?_, fun x hx => ?_, fun p k hp y hy => ?_⟩
  · rw [List.nodup_append]
    refine ⟨h.nodup, by simp, fun a ha b hb e => ?_⟩
    simp at hb
    subst hb
    subst e
    have := List.contains_iff_mem.2 ha
    rw [hn] at this
    cases this
  · rcases List.mem_append.1 hx with hx | hx
    · exact h.inn x hx
    · simp at hx
      exact ⟨i, hx, hi⟩
  · by_cases hlt : p < o.length
    · rw [List.getElem?_append_left hlt] at hp
      have := h.deps p k hp y hy
      rw [List.take_append_of_le_length (by omega)]
      exact this
    · rw [List.getElem?_append_right (by omega)] at hp
      have hp0 : p - o.length = 0 := by
        have := (List.getElem?_eq_some_iff.1 hp).1
        simp at this
        omega
      rw [hp0] at hp
      simp at hp
      obtain rfl : i = k := by omega
      have hyo : o.contains y = true := by
        have h1 := List.any_eq_false.1 hd y hy
        simpa using h1
      rw [List.take_append_of_le_length (by omega), List.take_of_length_le (by omega)]
      exact List.contains_iff_mem.1 hyo
theorem Ord.len {d : Nat → List Int} {n : Nat} {o : List Int} (h : Ord d n o) : o.length ≤ n :=
  met_len (S := fun x => o.contains x) (left := fun _ => false) ⟨h.nodup, fun x => by simp⟩ (fun x hx => h.inn x (by simpa using hx))
/-- where some are missing, some one of them lacks none of its own -/
theorem Ord.next {d : Nat → List Int} {n : Nat} {o : List Int} (h : Ord d n o) (hin : ∀ i, i < n → ∀ y ∈ d i, 0 ≤ y ∧ y < n) (hno : ∀ i, i < n → ¬ Wal.Way (stepB d) n i i) (hd : ∀ i, n ≤ i → d i = []) (hl : o.length < n) :
    ∃ k : Nat, k < n ∧ o.contains (k : Int) = false ∧ ∀ y ∈ d k, o.contains y = true := by
  have hex : ∃ i, i < n ∧ o.contains ((i : Nat) : Int) = false := by
    rcases Classical.em (∃ i, i < n ∧ o.contains ((i : Nat) : Int) = false) with h1 | h1
    · exact h1
    · exfalso
      have hall : ∀ i, i < n → o.contains ((i : Nat) : Int) = true := fun i hi => by
        cases e : o.contains ((i : Nat) : Int) with
        | true => rfl
        | false => exact absurd ⟨i, hi, e⟩ h1
      have hp : o.Perm ((List.range n).map fun k => ((k : Nat) : Int)) := by
        refine (List.perm_ext_iff_of_nodup h.nodup ?_).2 fun x => ?_
        · exact List.pairwise_map.2 (List.nodup_range.imp fun {a b} hab e => hab (by omega))
        · rw [List.mem_map]
          constructor
          · intro hx
            obtain ⟨k, rfl, hk⟩ := h.inn x hx
            exact ⟨k, by simpa using hk, rfl⟩
          · rintro ⟨k, hk, rfl⟩
            exact List.contains_iff_mem.1 (hall k (by simpa using hk))
      have := hp.length_eq
      simp at this
      omega
  obtain ⟨i, hi, hi2⟩ := hex
  have hr : ∀ i k, stepB d i k = true → k < n := fun i k hs => by
    unfold stepB at hs
    rw [List.contains_iff_mem] at hs
    rcases Nat.lt_or_ge i n with hlt | hge
    · have := hin i hlt _ hs; omega
    · rw [hd i hge] at hs; cases hs
  obtain ⟨k, hk, hU, hdep⟩ := last_one hr hno (fun j => !o.contains ((j : Nat) : Int)) hi (by simp only [hi2, Bool.not_false])
  refine ⟨k, hk, by simpa using hU, fun y hy => ?_⟩
  have h0 := hin k hk y hy
  obtain ⟨q, rfl⟩ := Int.eq_ofNat_of_zero_le h0.1
  have := hdep q (by unfold stepB; simpa using hy)
  simpa using this
theorem noring_of {l : List Rule} (h : (wrongR l).1 = 0) : ∀ i, i < l.length → ¬ Wal.Way (stepB (directR l)) l.length i i := by
  intro i hi hw
  have h3 : (firstErr (fun i _ => ringErr l i) 0 l).1 = 0 := by
    have h2 := h
    unfold wrongR at h2
    rw [if_pos (wrong_form h)] at h2
    split at h2
    · rw [if_pos (wrong_none h)] at h2
      exact h2
    · rename_i h4; exact absurd h2 h4
  have h1 := firstErr_zero _ l 0 h3 i _ (List.getElem?_eq_getElem hi)
  rw [Nat.zero_add] at h1
  have h2 : ringErr l i = 0 := h1
  unfold ringErr at h2
  rw [if_pos ((Wal.wal_way _ _ _ _).2 hw)] at h2
  cases h2
theorem directR_none {l : List Rule} {i : Nat} (h : l.length ≤ i) : directR l i = [] := by
  unfold directR
  rw [List.getElem?_eq_none h]
  rfl

/-- where the first one is that is missing -/
def missI (o l : List Int) : Int := if l.findIdx (fun y => !o.contains y) < l.length then (l.findIdx (fun y => !o.contains y) : Nat) else -1
theorem missI_any (o l : List Int) : decide (0 ≤ missI o l) = l.any fun y => !o.contains y := by
  rw [Bool.eq_iff_iff, decide_eq_true_eq, List.any_eq_true]
  unfold missI
  constructor
  · intro h
    split at h
    · rename_i hi
      exact ⟨_, List.getElem_mem hi, List.findIdx_getElem (xs := l) (p := fun y => !o.contains y) (w := hi)⟩
    · omega
  · rintro ⟨x, h1, h2⟩
    rw [if_pos (List.findIdx_lt_length_of_exists ⟨x, h1, h2⟩)]
    omega

set_option maxHeartbeats 1000000 in
theorem Order1_any (o : List Int) (ov : Value) (y : Int) (p : Nat) (w : World) (hp : w.cell? ⟨p, 0, none⟩ = some ov) (ho : IntsV w w.heap.size ov o) :
    Calls Tryd.prog 40 #[.int .i64 y, .pointer (some ⟨p, 0, none⟩)] w fun e w' => e = .returned (.bool (!o.contains y)) ∧ w = w' := by
  have hi := Lib.hid (Contains_ints ov o y w ho)
  obtain ⟨A, cap, rfl, _⟩ := ho
  go_enter Tryd.func40, Tryd.ntmps40
  go_wp2_with (go_at_call 37; refine hi.out.mono ?_; rintro e w2 ⟨rfl, rfl⟩)
  go_ret
  exact ⟨ret_bool (a := !decide (y ∈ o)) (by simp), rfl⟩

set_option maxRecDepth 100000 in
set_option maxHeartbeats 2000000 in
theorem IndexFunc_any (v : Value) (l o : List Int) (ov : Value) (p : Nat) (w : World) (hr : IntsV w w.heap.size v l) (hp : w.cell? ⟨p, 0, none⟩ = some ov) (ho : IntsV w w.heap.size ov o) :
    Calls Tryd.prog 80 #[v, .func (.func 40) #[] #[.pointer (some ⟨p, 0, none⟩)]] w fun e w' => e = .returned (.int .i64 (missI o l)) ∧ w = w' := by
  have ht := Lib.hid (fun y => Order1_any o ov y p w hp ho)
  clear hp ho
  obtain ⟨A, cap, rfl, hlen, hc⟩ := hr
  replace hc := Lib.hid hc
  go_enter Tryd.func80, Tryd.ntmps80
  go_wp2
  go_loopg [8] l.length (fun n i wr => ∃ j : Nat, j ≤ l.length ∧ n = l.length - j ∧ i = .int .i64 j ∧ wr = w ∧ j ≤ l.findIdx (fun y => !o.contains y))
  case atStart => exact ⟨0, by omega, rfl, rfl, rfl, Nat.zero_le _⟩
  case round =>
    obtain ⟨j, hj, hn, rfl, rfl, hpj⟩ := hrel
    replace hn := Lib.hid hn
    by_cases hlt : j < l.length
    · obtain ⟨y, hx⟩ : ∃ x, l[j]? = some x := ⟨_, List.getElem?_eq_getElem hlt⟩
      obtain ⟨b, q, rfl, hbl, k0⟩ := hc.out j y hx
      have hy : l[j] = y := by rw [List.getElem?_eq_getElem hlt] at hx; exact Option.some.inj hx
      have hty := Lib.hid (ht.out y)
      cases ht2 : o.contains y with
      | false =>
        have hp1 : l.findIdx (fun y => !o.contains y) = j := by
          rcases Nat.lt_or_ge j (l.findIdx (fun y => !o.contains y)) with h | h
          · have := List.not_of_lt_findIdx (xs := l) (p := fun y => !o.contains y) h
            simp [hy] at this
            rw [← List.contains_iff_mem, ht2] at this
            cases this
          · omega
        rw [ht2] at hty
        have hres := Lib.hid (show missI o l = (j : Int) by unfold missI; rw [hp1, if_pos hlt])
        clear ht2 hp1 hx hy
        go_wp2_with (go_at_call 40; refine hty.out.mono ?_; rintro e w2 ⟨rfl, rfl⟩)
        go_ret
        exact ⟨by rw [hres.out]; rfl, rfl⟩
      | true =>
        have hp1 : j + 1 ≤ l.findIdx (fun y => !o.contains y) := by
          rcases Nat.lt_or_ge j (l.findIdx (fun y => !o.contains y)) with h | h
          · exact h
          · have e : l.findIdx (fun y => !o.contains y) = j := by omega
            have := List.findIdx_getElem (xs := l) (p := fun y => !o.contains y) (w := by omega)
            simp only [e, hy, ht2] at this
            cases this
        rw [ht2] at hty
        clear ht2 hx hy
        go_wp2_with (go_at_call 40; refine hty.out.mono ?_; rintro e w2 ⟨rfl, rfl⟩)
        go_roundg (l.length - (j + 1))
        case measure => rw [hn.out]; omega
        case rel => exact ⟨j + 1, by omega, rfl, by go_num, rfl, hp1⟩
    · have hres := Lib.hid (show missI o l = -1 by unfold missI; rw [if_neg (by omega)])
      obtain rfl : j = l.length := by omega
      go_wp2
      go_ret
      exact ⟨by rw [hres.out]; rfl, rfl⟩

set_option maxHeartbeats 1000000 in
theorem ContainsFunc_any (v : Value) (l o : List Int) (ov : Value) (p : Nat) (w : World) (hr : IntsV w w.heap.size v l) (hp : w.cell? ⟨p, 0, none⟩ = some ov) (ho : IntsV w w.heap.size ov o) :
    Calls Tryd.prog 39 #[v, .func (.func 40) #[] #[.pointer (some ⟨p, 0, none⟩)]] w fun e w' => e = .returned (.bool (l.any fun y => !o.contains y)) ∧ w = w' := by
  have hi := Lib.hid (IndexFunc_any v l o ov p w hr hp ho)
  rw [← missI_any]
  clear hp ho
  obtain ⟨A, cap, rfl, _⟩ := hr
  go_enter Tryd.func39, Tryd.ntmps39
  go_wp2_with (go_at_call 80; refine hi.out.mono ?_; rintro e w2 ⟨rfl, rfl⟩)
  go_ret
  exact ⟨rfl, rfl⟩

/-- one pass over all: what has become of those before i whose own were there at its start -/
def Pass (d : Nat → List Int) (o0 o : List Int) (i : Nat) : Prop := (∃ t, o = o0 ++ t) ∧ ∀ k, k < i → (∀ y ∈ d k, o0.contains y = true) → o.contains ((k : Nat) : Int) = true
theorem Pass.start (d : Nat → List Int) (o : List Int) : Pass d o o 0 := ⟨⟨[], by simp⟩, fun k hk => by omega⟩
theorem Pass.has {d : Nat → List Int} {o0 o : List Int} {i : Nat} (h : Pass d o0 o i) (hc : o.contains (i : Int) = true) : Pass d o0 o (i + 1) := ⟨h.1, fun k hk hy => by
  by_cases e : k = i
  · rw [e]; exact hc
  · exact h.2 k (by omega) hy⟩
theorem Pass.wait {d : Nat → List Int} {o0 o : List Int} {i : Nat} (h : Pass d o0 o i) (hc : ((d i).any fun y => !o.contains y) = true) : Pass d o0 o (i + 1) := ⟨h.1, fun k hk hy => by
  by_cases e : k = i
  · subst e
    exfalso
    obtain ⟨t, rfl⟩ := h.1
    obtain ⟨y, h1, h2⟩ := List.any_eq_true.1 hc
    have h3 := hy y h1
    rw [List.contains_iff_mem] at h3
    have h4 : (o0 ++ t).contains y = true := List.contains_iff_mem.2 (List.mem_append_left _ h3)
    rw [h4] at h2
    cases h2
  · exact h.2 k (by omega) hy⟩
theorem Pass.put {d : Nat → List Int} {o0 o : List Int} {i : Nat} (h : Pass d o0 o i) : Pass d o0 (o ++ [(i : Int)]) (i + 1) := by
  obtain ⟨⟨t, ht⟩, h2⟩ := h
  refine ⟨⟨t ++ [(i : Int)], by rw [ht, List.append_assoc]⟩, fun k hk hy => ?_⟩
  by_cases e : k = i
  · subst e
    simp
  · have := h2 k (by omega) hy
    rw [List.contains_iff_mem] at this ⊢
    exact List.mem_append_left _ this
theorem Pass.done {d : Nat → List Int} {o0 o : List Int} {n : Nat} (h : Pass d o0 o n) {k : Nat} (hk : k < n) (h1 : o0.contains (k : Int) = false) (h2 : ∀ y ∈ d k, o0.contains y = true) : o0.length < o.length := by
  obtain ⟨⟨t, rfl⟩, h3⟩ := h
  have h4 := h3 k hk h2
  cases t with
  | nil => rw [List.append_nil, h1] at h4; cases h4
  | cons x t => simp

set_option maxRecDepth 100000 in
set_option maxHeartbeats 8000000 in
theorem Order_any (v : Value) (l : List Rule) (w : World) (hr : RulesV w w.heap.size v l) (hok : (wrongR l).1 = 0) : Calls Tryd.prog 18 #[v] w fun e w' => ∃ (ov : Value) (o : List Int), e = .returned ov ∧ w'.ownsRow w.heap.size 3 1 ov o.length (o.map (Value.int .i64)) ∧ Ord (directR l) l.length o ∧ o.length = l.length ∧ Below w.heap.size w w' := by
  obtain ⟨h40, hrx⟩ := form_right (wrong_form hok)
  have hno := Lib.hid (noring_of hok)
  have hin := Lib.hid (noneErr_all (wrong_none hok))
  have hD := Lib.hid (direct_any _ l w hr h40 (fun r hr => (hrx r hr).2))
  obtain ⟨A, cap, rfl, hlen, hc⟩ := hr
  have hlr : ((List.range l.length).map (directR l)).length = l.length := by simp
  clear hc hok hrx
  go_enter Tryd.func18, Tryd.ntmps18
  go_wp2_with (go_at_call 36; refine hD.out.mono ?_; rintro e w1 ⟨dv, rfl, hO, hb1⟩; have hI := Lib.hid hO.reads; obtain ⟨vs1, hv1, hv2⟩ := hO; obtain ⟨A1, cap1, rfl⟩ := own_slice hv1; rw [hlr] at hI; clear hv1 hv2)
  have z1 := hb1.size
  clear hlr hD
  have hbA : Below w.heap.size w (w1.alloc (.cells #[.slice none 0 0] 57)) := hb1.alloc z1 _
  have hBA := Blk.new w1 57 #[.slice none 0 0]
  have hdw : ∀ wr : World, Below w1.heap.size w1 wr → True := fun _ _ => trivial
  go_loopg [5] l.length (fun n _ wr => ∃ (o : List Int) (ov : Value), n = l.length - o.length ∧ Hid (Ord (directR l) l.length o) ∧ Hid (wr.ownsRow (w1.heap.size + 1) 3 1 ov o.length (o.map (Value.int .i64))) ∧ Blk wr w1.heap.size 57 #[ov] ∧ Below w1.heap.size w1 wr ∧ w1.heap.size + 1 ≤ wr.heap.size)
  case atStart => exact ⟨[], .slice none 0 0, rfl, Lib.hid (Ord.nil _ _), Lib.hid (World.ownsRow_nil _ _ _ _), hBA, (Below.refl _ _).alloc (Nat.le_refl _) _, by simp⟩
  case round =>
    clear hbA hBA hdw
    obtain ⟨o, ov, hn, hO, hown, hB, hbw, hzw⟩ := hrel
    replace hn := Lib.hid hn
    obtain ⟨wo, rfl⟩ : ∃ wo : World, wo = wr := ⟨_, rfl⟩
    have hol := hO.out.len
    obtain ⟨A8, cap8, rfl⟩ := own_slice hown.out
    have c0 : wo.cell? ⟨w1.heap.size, 0, none⟩ = some (.slice A8 o.length cap8) := hB.cell 0
    by_cases hlt : o.length < l.length
    · have hnx := Lib.hid (hO.out.next hin.out hno.out (fun i hi => directR_none hi) hlt)
      go_wp2
      go_loopg [15] l.length (fun n k wr => ∃ (i : Nat) (o2 : List Int) (ov2 : Value), i ≤ l.length ∧ n = l.length - i ∧ k = .int .i64 i ∧ Hid (Ord (directR l) l.length o2) ∧ Hid (Pass (directR l) o o2 i) ∧ Hid (wr.ownsRow (w1.heap.size + 1) 3 1 ov2 o2.length (o2.map (Value.int .i64))) ∧ Blk wr w1.heap.size 57 #[ov2] ∧ Below w1.heap.size w1 wr ∧ w1.heap.size + 1 ≤ wr.heap.size)
      case atStart => exact ⟨0, o, _, by omega, rfl, rfl, hO, Lib.hid (Pass.start _ _), hown, hB, hbw, hzw⟩
      case round =>
        clear hO hown hB hbw hzw c0 hol
        obtain ⟨i, o2, ov2, hi, hm, rfl, hO, hP, hown, hB, hbw, hzw⟩ := hrel
        replace hm := Lib.hid hm
        obtain ⟨A8, cap8, rfl⟩ := own_slice hown.out
        have hol := hO.out.len
        have c0 : wr.cell? ⟨w1.heap.size, 0, none⟩ = some (.slice A8 o2.length cap8) := hB.cell 0
        have f0 : wr.frozen? ⟨w1.heap.size, 0, none⟩ = false := hB.frozen 0
        by_cases hli : i < l.length
        · obtain ⟨A9, cap9, he9, _, hrd⟩ := hI.out
          obtain ⟨b, q, hee, hbl, u, k0, hu⟩ := hrd i (directR l i) (by simp [hli])
          have hA1 : A1 = some ⟨b, q, none⟩ := by rw [← hee]; injection he9
          subst hA1
          clear he9 hee hrd
          obtain ⟨A3, cap3, rfl⟩ := own_slice hu
          have k1 : wr.cell? ⟨b, q + i, none⟩ = some (.slice A3 (directR l i).length cap3) := (hbw.cell (p := ⟨b, _, none⟩) hbl).trans k0
          have hcon := Lib.hid (Contains_ints _ o2 i wr (own_reads hown.out (Nat.le_refl _)))
          have hcf := Lib.hid (ContainsFunc_any _ (directR l i) o2 _ w1.heap.size wr (own_reads (own_keep hu hbw (Nat.le_refl _)) (Nat.le_refl _)) c0 (own_reads hown.out (Nat.le_refl _)))
          clear hu k0
          cases hc1 : o2.contains (i : Int) with
          | true =>
            have hP2 := Lib.hid (hP.out.has hc1)
            rw [hc1] at hcon
            clear hc1
            go_wp2_with (go_at_call 37; refine hcon.out.mono ?_; rintro e w5 ⟨rfl, rfl⟩)
            go_roundg (l.length - (i + 1))
            case measure => rw [hm.out]; omega
            case rel => exact ⟨i + 1, o2, _, by omega, rfl, by go_num, hO, hP2, hown, hB, hbw, hzw⟩
          | false =>
            cases hc2 : (directR l i).any (fun y => !o2.contains y) with
            | true =>
              have hP2 := Lib.hid (hP.out.wait hc2)
              rw [hc1] at hcon
              rw [hc2] at hcf
              clear hc1 hc2
              go_wp2_with (first | (go_at_call 37; refine hcon.out.mono ?_; rintro e w5 ⟨rfl, rfl⟩) | (go_at_call 39; refine hcf.out.mono ?_; rintro e w6 ⟨rfl, rfl⟩))
              go_roundg (l.length - (i + 1))
              case measure => rw [hm.out]; omega
              case rel => exact ⟨i + 1, o2, _, by omega, rfl, by go_num, hO, hP2, hown, hB, hbw, hzw⟩
            | false =>
              have hP2 := Lib.hid hP.out.put
              have hO2 := Lib.hid (hO.out.snoc hli hc1 hc2)
              rw [hc1] at hcon
              rw [hc2] at hcf
              clear hc1 hc2
              go_wp2_with (first
                | (go_at_call 37; refine hcon.out.mono ?_; rintro e w5 ⟨rfl, rfl⟩)
                | (go_at_call 39; refine hcf.out.mono ?_; rintro e w6 ⟨rfl, rfl⟩)
                | (at_builtin; refine wpList_append_one elInts rfl (.tmp 31) (.tmp 33) rfl (w1.heap.size + 1) _ o2.length (o2.map (Value.int .i64)) hown.out _ _ rfl rfl rfl (by simp only [maxLen]; omega) (by omega) hzw ?_; intro v3 w3 ho3 hb3 hg3; obtain ⟨A6, cap6, rfl⟩ := own_slice ho3; replace ho3 := Lib.hid ho3; have hB3 := hB.below hb3 (by omega); have c3 : w3.cell? ⟨w1.heap.size, 0, none⟩ = some (.slice A8 o2.length cap8) := hB3.cell 0; have f3 : w3.frozen? ⟨w1.heap.size, 0, none⟩ = false := hB3.frozen 0; have z3 := hb3.size))
              go_roundg (l.length - (i + 1))
              case measure => rw [hm.out]; omega
              case rel => exact ⟨i + 1, o2 ++ [(i : Int)], .slice A6 (o2.length + 1) cap6, by omega, rfl, by go_num, hO2, hP2, Lib.hid (by simpa using own_far ho3.out (p := ⟨w1.heap.size, 0, none⟩) (by simp) _), hB3.set 0 _, (hbw.trans (hb3.mono (by omega))).setCell (by simp) _, by simp; omega⟩
        · obtain rfl : i = l.length := by omega
          obtain ⟨k, hk, hk1, hk2⟩ := hnx.out
          have hlt2 := hP.out.done hk hk1 hk2
          clear hk hk1 hk2
          go_wp2
          go_roundg (l.length - o2.length)
          case measure => rw [hn.out]; omega
          case rel => exact ⟨o2, _, rfl, hO, hown, hB, hbw, hzw⟩
    · go_wp2
      go_ret
      refine ⟨_, o, rfl, own_mono hown.out (by omega), hO.out, by omega, hb1.trans (hbw.mono z1)⟩

end Ru
end Go.Proofs.YtbadplbdgpbdaaaDoor

namespace Go.Proofs.YtbadplbdgpbdaaaDoor
open Go.RowKit
namespace Ru
open Msk
/-- cells laid into a row one by one -/
theorem lay_list : ∀ (xs : List Value) (s : Nat) (cs : Array Value) (j : Nat), ((xs.zipIdx s).foldl (fun (cs : Array Value) (x : Value × Nat) => cs.setIfInBounds x.snd x.fst) cs)[j]? =
    if s ≤ j ∧ j < s + xs.length ∧ j < cs.size then xs[j - s]? else cs[j]?
  | [], s, cs, j => by simp; intro h1 h2; omega
  | x :: xs, s, cs, j => by
    rw [List.zipIdx_cons, List.foldl_cons, lay_list xs (s + 1)]
    simp only [Array.size_setIfInBounds, Array.getElem?_setIfInBounds, List.length_cons]
    by_cases h1 : s = j
    · subst h1
      rw [if_neg (by omega), if_pos rfl]
      by_cases h2 : s < cs.size
      · rw [if_pos h2, if_pos ⟨by omega, by omega, h2⟩]; simp
      · rw [if_neg h2, if_neg (by omega), Array.getElem?_eq_none (by omega)]
    · rw [if_neg h1]
      by_cases h2 : s + 1 ≤ j ∧ j < s + 1 + xs.length ∧ j < cs.size
      · rw [if_pos h2, if_pos ⟨by omega, by omega, h2.2.2⟩, show j - s = (j - (s + 1)) + 1 by omega]; simp
      · rw [if_neg h2, if_neg (by omega)]
@[go_sem] theorem lay_mask (f : Nat → Nat) (z : Array Value) (hz : z.size = 23) : Array.foldl (fun (cs : Array Value) (x : Value × Nat) => cs.setIfInBounds x.snd x.fst) z (maskA f).zipIdx 0 23 = maskA f := by
  have e : Array.foldl (fun (cs : Array Value) (x : Value × Nat) => cs.setIfInBounds x.snd x.fst) z (maskA f).zipIdx 0 23 = ((maskA f).toList.zipIdx 0).foldl (fun (cs : Array Value) (x : Value × Nat) => cs.setIfInBounds x.snd x.fst) z := by
    have := Array.foldl_toList (f := fun (cs : Array Value) (x : Value × Nat) => cs.setIfInBounds x.snd x.fst) (init := z) (xs := (maskA f).zipIdx)
    rw [Array.toList_zipIdx, Array.size_zipIdx, maskA_size] at this
    exact this.symm
  rw [e]
  apply Array.ext_getElem?
  intro j
  rw [lay_list]
  have hs := maskA_size f
  by_cases h : j < 23
  · rw [if_pos ⟨by omega, by simp [hs]; omega, by omega⟩]; simp
  · rw [if_neg (by simp [hs]; omega), Array.getElem?_eq_none (by omega), Array.getElem?_eq_none (by omega)]

@[go_sem] theorem cell_setRow_far (w : World) (g : Nat) (cs : Array Value) (c q : Nat) : (w.setRow g cs).cell? ⟨c, q, none⟩ = if g = c then cellNew (w.setRow g cs) ⟨c, q, none⟩ else w.cell? ⟨c, q, none⟩ := by
  split
  · rfl
  · rename_i h
    exact World.cell?_of_block (setRow_other w g c cs (Ne.symm h))
@[go_sem] theorem frozen_setRow_far (w : World) (g : Nat) (cs : Array Value) (c q : Nat) : (w.setRow g cs).frozen? ⟨c, q, none⟩ = if g = c then frozenNew (w.setRow g cs) ⟨c, q, none⟩ else w.frozen? ⟨c, q, none⟩ := by
  split
  · rfl
  · rename_i h
    exact World.frozen?_of_block (setRow_other w g c cs (Ne.symm h))

end Ru
end Go.Proofs.YtbadplbdgpbdaaaDoor

namespace Go.Proofs.YtbadplbdgpbdaaaDoor
open Go.RowKit
namespace Ru
open Msk Vm

theorem dup_none {l : List Rule} (h : (wrongR l).1 = 0) : (firstErr (dupErr l) 0 l).1 = 0 := by
  have h2 := h
  unfold wrongR at h2
  rw [if_pos (wrong_form h)] at h2
  split at h2
  · assumption
  · rename_i h4; exact absurd h2 h4
theorem right_of {l : List Rule} (h : (wrongR l).1 = 0) : RightR l := by
  refine ⟨fun i r hi => ?_, fun i r hi nm hn => ?_, noring_of h⟩
  · have h1 := firstErr_zero _ l 0 (dup_none h) i r hi
    rw [Nat.zero_add, dup_place hi] at h1
    split at h1
    · rename_i h2
      have h3 := placeR_le hi
      have h4 := (List.getElem?_eq_some_iff.1 hi).1
      rw [findI_nat (by omega)] at h2
      omega
    · cases h1
  · have h1 := noneErr_all (wrong_none h) i (List.getElem?_eq_some_iff.1 hi).1 (findI l nm) (by rw [directR_at hi]; exact List.mem_map.2 ⟨nm, hn, rfl⟩)
    have h2 : ¬ findI l nm < 0 := by omega
    rw [findI_neg] at h2
    omega
theorem form_each {l : List Rule} (h : (wrongF l).1 = 0) {i : Nat} {r : Rule} (hi : l[i]? = some r) : (formE Lx.isName r.expr 1 0).1 = 0 := by
  unfold wrongF at h
  split at h
  · cases h
  · have h1 := firstErr_zero _ l 0 h i r hi
    have h2 : ruleErr Lx.isName r = 0 := h1
    unfold ruleErr at h2
    split at h2
    · exact h2
    · cases h2
/-- where all places are taken, each is -/
theorem Ord.full {d : Nat → List Int} {n : Nat} {o : List Int} (h : Ord d n o) (hl : o.length = n) {k : Nat} (hk : k < n) : (k : Int) ∈ o := by
  cases e : o.contains (k : Int) with
  | true => exact List.contains_iff_mem.1 e
  | false =>
    exfalso
    have hnd : (o ++ [(k : Int)]).Nodup := by
      rw [List.nodup_append]
      refine ⟨h.nodup, by simp, fun a ha b hb e2 => ?_⟩
      simp at hb
      subst hb
      subst e2
      rw [List.contains_iff_mem.2 ha] at e
      cases e
    have := met_len (S := fun x => (o ++ [(k : Int)]).contains x) (left := fun _ => false) (ks := o ++ [(k : Int)]) ⟨hnd, fun x => by rw [List.contains_iff_mem]; simp⟩ (n := n) (fun x hx => by
      have hx2 := List.contains_iff_mem.1 hx
      rcases List.mem_append.1 hx2 with hx2 | hx2
      · exact h.inn x hx2
      · simp at hx2; exact ⟨k, hx2, hk⟩)
    rw [List.length_append] at this
    simp at this
    omega

/-- what is known of the masks: of the rules at the first so many places of an order -/
structure Known (l : List Rule) (env : List UInt8 → Nat → Bool) (o : List Int) (i : Nat) (M : List UInt8 → Option (Nat → Bool)) : Prop where
  has : ∀ j, j < i → ∀ (k : Nat) (r : Rule), o[j]? = some (k : Int) → l[k]? = some r → M r.name = some (env r.name)
theorem Known.start (l : List Rule) (env : List UInt8 → Nat → Bool) (o : List Int) : Known l env o 0 (fun _ => none) := ⟨fun j hj => by omega⟩
theorem Known.put {l : List Rule} {env : List UInt8 → Nat → Bool} {o : List Int} {i : Nat} {M : List UInt8 → Option (Nat → Bool)} (h : Known l env o i M) {k : Nat} {r : Rule} (hi : o[i]? = some (k : Int)) (hr : l[k]? = some r) : Known l env o (i + 1) (fun x => if x = r.name then some (env r.name) else M x) := by
  refine ⟨fun j hj k2 r2 h1 h2 => ?_⟩
  by_cases e : r2.name = r.name
  · rw [if_pos e, e]
  · rw [if_neg e]
    refine h.has j ?_ k2 r2 h1 h2
    have : j ≠ i := fun e2 => by
      subst e2
      rw [hi] at h1
      obtain rfl : k = k2 := by injection h1 with h1; omega
      rw [hr] at h2
      injection h2 with h2
      subst h2
      exact e rfl
    omega
theorem Known.mean {l : List Rule} {env : List UInt8 → Nat → Bool} {o : List Int} {i : Nat} {M : List UInt8 → Option (Nat → Bool)} {wd : Nat} {day : Int} (h : Known l env o i M) (hM : Means wd day l env) (hR : RightR l) (hO : Ord (directR l) l.length o) {k : Nat} {r : Rule} (hi : o[i]? = some (k : Int)) (hr : l[k]? = some r) :
    meanE wd day (fun nm => (M nm).getD noS) r.expr = env r.name := by
  rw [hM k r hr]
  refine meanE_loc r.expr fun nm hn => ?_
  have hk := hR.known k r hr nm hn
  have hy : findI l nm ∈ directR l k := by rw [directR_at hr]; exact List.mem_map.2 ⟨nm, hn, rfl⟩
  have hj := hO.deps i k hi _ hy
  rw [findI_nat hk] at hj
  obtain ⟨j, hj1, hj2⟩ := List.mem_iff_getElem.1 hj
  rw [List.length_take] at hj1
  rw [List.getElem_take] at hj2
  have h1 : o[j]? = some ((placeR l nm : Nat) : Int) := by rw [List.getElem?_eq_getElem (by omega), hj2]
  have h2 : l[placeR l nm]? = some l[placeR l nm] := List.getElem?_eq_getElem hk
  have h3 := h.has j (by omega) _ _ h1 h2
  have h4 := placeR_name h2
  show (M nm).getD noS = env nm
  rw [← h4, h3]
  rfl
theorem Known.all {l : List Rule} {env : List UInt8 → Nat → Bool} {o : List Int} {M : List UInt8 → Option (Nat → Bool)} (h : Known l env o o.length M) (hO : Ord (directR l) l.length o) (hl : o.length = l.length) {k : Nat} {r : Rule} (hr : l[k]? = some r) : (M r.name).getD noS = env r.name := by
  obtain ⟨j, hj, e⟩ := List.mem_iff_getElem.1 (hO.full hl (List.getElem?_eq_some_iff.1 hr).1)
  rw [h.has j hj k r (by rw [List.getElem?_eq_getElem hj, e]) hr]
  rfl

/-! ### rows of masks -/
theorem el_maskM : El Tryd.prog 33 38 23 184 := El.mk' Tryd.underlying33 (by kernel_rfl) (by omega)
def maskL (p : Nat → Bool) : List Value := (maskA (setW p)).toList
theorem maskL_len (p : Nat → Bool) : (maskL p).length = 23 := by unfold maskL; rw [Array.length_toList]; exact maskA_size _
def MaskRow (w : World) (base : Nat) (v : Value) (S : List (Nat → Bool)) : Prop := w.ownsRow base 38 23 v S.length (S.flatMap maskL)
/-- a mask, laid out just now, is appended -/
theorem wp_pushP {W : World} {ops : Array Oper} {rest : List Oper} {o : Oper} {a : Act} {Q : Exit → Act → World → Prop} (hgd : o.guard = none) (s x : Operand)
    (ho : o.op = .call { callee := .builtin .append, args := #[s, x], argTypes := #[33, 33] })
    (base : Nat) (v : Value) (S : List (Nat → Bool)) (p : Nat → Bool) (hown : MaskRow W base v S) (hs : a.eval s = v) (hx : a.eval x = .slice (some ⟨W.heap.size, 0, none⟩) 1 1) (hS : S.length < 1000000) (hbase : base ≤ W.heap.size)
    (h : ∀ v' w', MaskRow w' base v' (S ++ [p]) → Below base W w' → W.heap.size < w'.heap.size → wpList Tryd.prog ops Q rest (a.put o.dst v') w') :
    wpList Tryd.prog ops Q (o :: rest) a (W.alloc (.cells (maskA (setW p)) 38)) := by
  refine wpList_append_lit el_maskM hgd s x ho base v S.length (S.flatMap maskL) hown (maskA (setW p)) 38 hs hx (maskA_size _) (Msk.one_cell _) (by simp only [maxLen]; omega) (by omega) hbase fun v' w' h1 h2 h3 => ?_
  refine h v' w' ?_ h2 h3
  unfold MaskRow
  rw [List.length_append, List.flatMap_append]
  simpa [maskL] using h1
/-- a mask that lies in a block of its own is appended -/
theorem wp_pushG {W : World} {ops : Array Oper} {rest : List Oper} {o : Oper} {a : Act} {Q : Exit → Act → World → Prop} (hgd : o.guard = none) (s x : Operand)
    (ho : o.op = .call { callee := .builtin .append, args := #[s, x], argTypes := #[33, 33] })
    (base : Nat) (v : Value) (S : List (Nat → Bool)) (p : Nat → Bool) (g : Nat) (hown : MaskRow W base v S) (hG : Blk W g 38 (maskA (setW p))) (hs : a.eval s = v) (hx : a.eval x = .slice (some ⟨g, 0, none⟩) 1 1) (hS : S.length < 1000000) (hbase : base ≤ W.heap.size)
    (h : ∀ v' w', MaskRow w' base v' (S ++ [p]) → Below base W w' → wpList Tryd.prog ops Q rest (a.put o.dst v') w') :
    wpList Tryd.prog ops Q (o :: rest) a W := by
  obtain ⟨i, z, hi, hz, hsi, hby, hzs⟩ := el_maskM.inf
  refine wpList_append_own _ hgd s x 33 ho base 38 i z 23 184 el_maskM.sl hi hz hsi hby hzs el_maskM.pos v S.length (S.flatMap maskL) hs hown ⟨g, 0, none⟩ 1 1 (maskL p) hx (by simp [maskL_len]) (fun j u hu => ?_) (Msk.one_cell (setW p)) (by simp only [maxLen]; omega) (by omega) hbase ?_
  · have := hG.cell j
    rw [Addr.add_lit, Nat.zero_add, this]
    simpa [maskL] using hu
  · intro v' w' h2 h3 _
    refine h v' w' ?_ (own_below hbase hown h3)
    unfold MaskRow
    rw [List.length_append, List.flatMap_append]
    simpa using h2
/-- a literal of one mask -/
def MadeAt (p : Nat → Bool) (v : Value) (w : World) : Prop := ∃ g, v = .slice (some ⟨g, 0, none⟩) 1 1 ∧ Blk w g 38 (maskA (setW p))
theorem MadeAt.new (w : World) (p : Nat → Bool) : MadeAt p (.slice (some ⟨w.heap.size, 0, none⟩) 1 1) (w.alloc (.cells (maskA (setW p)) 38)) := ⟨_, rfl, Blk.new _ _ _⟩
@[go_sem ↓] theorem run_buildSlice_mask (f : Nat → Nat) (w : World) : (Instr.buildSlice 33 1 #[(0, .agg (maskA f))]).run Tryd.prog w = .ok (.slice (some ⟨w.heap.size, 0, none⟩) 1 1) (w.alloc (.cells (maskA f) 38)) := by
  go_simp

end Ru
end Go.Proofs.YtbadplbdgpbdaaaDoor

namespace Go.Proofs.YtbadplbdgpbdaaaDoor
open Go.RowKit Go.Maps Go.ChangeShapes
namespace Ru
open Msk Vm
open Sl (strV Reads IntsV)

/-- what is answered where nothing can be told -/
def allF (l : List Rule) (day : Int) : Int × Int := if (wrongR l).1 ≠ 0 then wrongR l else if day < 0 ∨ 146097 ≤ day then (3, 0) else (0, 0)
def allM (l : List Rule) (env : List UInt8 → Nat → Bool) (day : Int) : List (Nat → Bool) := if (allF l day).1 = 0 then l.map fun r => env r.name else []
def AllPost (l : List Rule) (env : List UInt8 → Nat → Bool) (day : Int) (w : World) (e : Ending) (w' : World) : Prop := ∃ v, e = .returned (.tuple #[v, faultV (allF l day)]) ∧ MaskRow w' w.heap.size v (allM l env day) ∧ Below w.heap.size w w'
theorem MaskRow.nil (w : World) (base : Nat) : MaskRow w base (.slice none 0 0) [] := World.ownsRow_nil _ _ _ _

set_option maxRecDepth 100000 in
set_option maxHeartbeats 4000000 in
theorem MAll_wrong (v : Value) (l : List Rule) (env : List UInt8 → Nat → Bool) (day : Int) (w : World) (hr : RulesV w w.heap.size v l) (h : (wrongR l).1 ≠ 0) : Calls Tryd.prog 12 #[v, .int .i64 day] w (AllPost l env day w) := by
  have hF : allF l day = wrongR l := if_pos h
  have hM : allM l env day = [] := if_neg (by rw [hF]; exact h)
  have hbA : Below w.heap.size w (w.alloc (.cells #[.int .i64 0, .int .i64 0] 26)) := (Below.refl _ _).alloc (Nat.le_refl _) _
  have hP := Lib.hid (CWrong_any v l (w.alloc (.cells #[.int .i64 0, .int .i64 0] 26)) (hr.below hbA (Nat.le_refl _) (by simp)))
  have B0 := Blk.new w 26 #[.int .i64 0, .int .i64 0]
  obtain ⟨A, cap, rfl, _⟩ := hr
  have g : ((wrongR l).1 != 0) = true := by simpa using h
  unfold AllPost
  rw [hF, hM]
  generalize wrongR l = q at *
  obtain ⟨q1, q2⟩ := q
  unfold faultV at hP ⊢
  simp only at g hP ⊢
  clear h hF hM
  go_enter Tryd.func12, Tryd.ntmps12
  go_wp2_with (go_at_call 17; refine hP.out.mono ?_; rintro e w1 ⟨rfl, hb1⟩; have hz1 := hb1.size; simp at hz1; have B1 := B0.below hb1 (by simp); have s0 : w1.cell? ⟨w.heap.size, 0, none⟩ = some (.int .i64 0) := B1.cell 0; have s1 : w1.cell? ⟨w.heap.size, 1, none⟩ = some (.int .i64 0) := B1.cell 1; have t0 : w1.frozen? ⟨w.heap.size, 0, none⟩ = false := B1.frozen 0; have t1 : w1.frozen? ⟨w.heap.size, 1, none⟩ = false := B1.frozen 1)
  have hb2 : Below w.heap.size w w1 := hbA.trans (hb1.mono (by simp))
  have hlw : w.heap.size < w1.heap.size := by omega
  go_region
  all_goals
    go_wp2_with fail
    exact bodyPost_ret (v := .tuple #[.slice none 0 0, .agg #[.int .i64 q1, .int .i64 q2]]) (by simp [results, Tryd.results12, s0, s1, hlw, go_sem]) rfl ⟨_, rfl, MaskRow.nil _ _, (by repeat (first | exact Below.refl _ _ | assumption | refine Below.n _ ?_ (by first | omega | (simp; done) | (simp; omega)) | refine Below.alloc ?_ (by first | omega | (simp; done) | (simp; omega)) _ | refine Below.setCell ?_ (by first | omega | (simp; done) | (simp; omega)) _ | refine Below.drew ?_ | refine Below.setRow ?_ (by first | omega | (simp; done) | (simp; omega)) _ | refine Below.drewN ?_ _))⟩

set_option maxRecDepth 100000 in
set_option maxHeartbeats 4000000 in
theorem MAll_range (v : Value) (l : List Rule) (env : List UInt8 → Nat → Bool) (day : Int) (w : World) (hr : RulesV w w.heap.size v l) (h : (wrongR l).1 = 0) (hd : day < 0 ∨ 146097 ≤ day) : Calls Tryd.prog 12 #[v, .int .i64 day] w (AllPost l env day w) := by
  have hF : allF l day = (3, 0) := by unfold allF; rw [if_neg (by omega), if_pos hd]
  have hM : allM l env day = [] := if_neg (by rw [hF]; decide)
  have hbA : Below w.heap.size w (w.alloc (.cells #[.int .i64 0, .int .i64 0] 26)) := (Below.refl _ _).alloc (Nat.le_refl _) _
  have hP := Lib.hid (CWrong_any v l (w.alloc (.cells #[.int .i64 0, .int .i64 0] 26)) (hr.below hbA (Nat.le_refl _) (by simp)))
  have B0 := Blk.new w 26 #[.int .i64 0, .int .i64 0]
  obtain ⟨A, cap, rfl, _⟩ := hr
  unfold AllPost
  rw [hF, hM]
  generalize wrongR l = q at *
  obtain ⟨q1, q2⟩ := q
  simp only at h
  subst h
  unfold faultV at hP ⊢
  simp only at hP ⊢
  clear hF hM
  rcases dec (day < 0) with ⟨g, _⟩ | ⟨g, _⟩
  all_goals
    have g2 : decide (146097 ≤ day) = true ∨ day < 0 := by simp; omega
    go_enter Tryd.func12, Tryd.ntmps12
    go_wp2_with (go_at_call 17; refine hP.out.mono ?_; rintro e w1 ⟨rfl, hb1⟩; have hz1 := hb1.size; simp at hz1; have B1 := B0.below hb1 (by simp); have s0 : w1.cell? ⟨w.heap.size, 0, none⟩ = some (.int .i64 0) := B1.cell 0; have s1 : w1.cell? ⟨w.heap.size, 1, none⟩ = some (.int .i64 0) := B1.cell 1; have t0 : w1.frozen? ⟨w.heap.size, 0, none⟩ = false := B1.frozen 0; have t1 : w1.frozen? ⟨w.heap.size, 1, none⟩ = false := B1.frozen 1; have hlw : w.heap.size < w1.heap.size := by omega)
    have hb2 : Below w.heap.size w w1 := hbA.trans (hb1.mono (by simp))
    exact bodyPost_ret (v := .tuple #[.slice none 0 0, .agg #[.int .i64 3, .int .i64 0]]) (by simp [results, Tryd.results12, s0, s1, hlw, go_sem]) rfl ⟨_, rfl, MaskRow.nil _ _, (by repeat (first | exact Below.refl _ _ | assumption | refine Below.n _ ?_ (by first | omega | (simp; done) | (simp; omega)) | refine Below.alloc ?_ (by first | omega | (simp; done) | (simp; omega)) _ | refine Below.setCell ?_ (by first | omega | (simp; done) | (simp; omega)) _ | refine Below.drew ?_ | refine Below.setRow ?_ (by first | omega | (simp; done) | (simp; omega)) _ | refine Below.drewN ?_ _))⟩

theorem day_new (w1 : World) (o : Obj) (rv : Value) (day : Int) : DayAt (((w1.alloc o).alloc (.map #[] 0)).alloc (.cells #[rv, .int .i64 day, .map (some (w1.heap.size + 1))] 81)) (w1.heap.size + 1 + 1) day (w1.heap.size + 1) 0 0 (fun _ => none) := by
  have B := Blk.new ((w1.alloc o).alloc (.map #[] 0)) 81 #[rv, .int .i64 day, .map (some (w1.heap.size + 1))]
  rw [World.size_alloc, World.size_alloc] at B
  refine ⟨B.cell 1, B.cell 2, B.lt, by rw [World.size_alloc, World.size_alloc, World.size_alloc]; omega, ?_⟩
  rw [← none_envF]
  have := Mp.Is.made (w1.alloc o) Tryd.prog 9
  rw [World.size_alloc] at this
  exact this.alloc _
theorem grown_grown {a b c : World} {r : Option Nat} (h : a.grownBy b r) (k : b.grownBy c r) : a.grownBy c r :=
  ⟨k.os.trans h.os, k.tape.trans h.tape, k.output.trans h.output, Nat.le_trans h.size k.size, fun i hi hne => (k.block i (Nat.lt_of_lt_of_le hi h.size) hne).trans (h.block i hi hne)⟩
theorem grown_below {a b c : World} {r : Option Nat} (h : a.grownBy b r) (k : Below b.heap.size b c) : a.grownBy c r :=
  grown_grown h ⟨k.os, k.tape, k.output, k.size, fun i hi _ => k.block i hi⟩
theorem grown_refl (a : World) (r : Option Nat) : a.grownBy a r := ⟨rfl, rfl, rfl, Nat.le_refl _, fun _ _ _ => rfl⟩
theorem grown_cell {a b : World} {r : Option Nat} (h : a.grownBy b r) {g i : Nat} (hg : g < a.heap.size) (hne : some g ≠ r) : b.cell? ⟨g, i, none⟩ = a.cell? ⟨g, i, none⟩ := World.cell?_of_block (h.block g hg hne)

set_option maxRecDepth 100000 in
set_option maxHeartbeats 8000000 in
theorem MAll_right (v : Value) (l : List Rule) (env : List UInt8 → Nat → Bool) (wd : Nat) (day : Int) (hme : Means wd day l env) (hwd : Civ.weekI day = (wd : Nat)) (w : World) (hr : RulesV w w.heap.size v l) (h : (wrongR l).1 = 0) (hd0 : 0 ≤ day) (hd1 : day < 146097) : Calls Tryd.prog 12 #[v, .int .i64 day] w (AllPost l env day w) := by
  have hF : allF l day = (0, 0) := by unfold allF; rw [if_neg (by omega), if_neg (by omega)]
  have hM : allM l env day = l.map fun r => env r.name := if_pos (by rw [hF])
  have hbA : Below w.heap.size w (w.alloc (.cells #[.int .i64 0, .int .i64 0] 26)) := (Below.refl _ _).alloc (Nat.le_refl _) _
  have hP := Lib.hid (CWrong_any v l (w.alloc (.cells #[.int .i64 0, .int .i64 0] 26)) (hr.below hbA (Nat.le_refl _) (by simp)))
  have B0 := Blk.new w 26 #[.int .i64 0, .int .i64 0]
  have hright := Lib.hid (right_of h)
  have hform := Lib.hid (wrong_form h)
  have hOrd := Lib.hid (fun (W : World) (v : Value) (hr : RulesV W W.heap.size v l) => Order_any v l W hr h)
  obtain ⟨h40, _⟩ := form_right (wrong_form h)
  have hrr := Lib.hid hr
  obtain ⟨A, cap, rfl, hlen, hc⟩ := hr
  replace hc := Lib.hid hc
  unfold AllPost
  rw [hF, hM]
  generalize wrongR l = q at *
  obtain ⟨q1, q2⟩ := q
  simp only at h
  subst h
  unfold faultV at hP ⊢
  simp only at hP ⊢
  replace hme := Lib.hid hme
  clear hF hM
  have g : decide (day < 0) = false := by simp; omega
  have g2 : decide (146097 ≤ day) = false := by simp; omega
  have hmm := @run_makeMap Tryd.prog
  go_enter Tryd.func12, Tryd.ntmps12
  go_wp2_with (first
    | (go_at_call 17; refine hP.out.mono ?_; rintro e w1 ⟨rfl, hb1⟩; have hz1 := hb1.size; simp at hz1; have B1 := B0.below hb1 (by simp); have hlw : w.heap.size < w1.heap.size := by omega)
    | (go_at_call 18; refine (hOrd.out _ _ (hrr.out.below (((((hbA.trans (hb1.mono (by simp))).alloc (by omega) _).alloc (by simp; omega) _).alloc (by simp; omega) _)) (Nat.le_refl _) (by simp; omega))).mono ?_; rintro e w5 ⟨ov, o, rfl, ho, hO, hol, hb5⟩; obtain ⟨A5, cap5, rfl⟩ := own_slice ho; replace hol := Lib.hid hol))
  have hD5 := (day_new w1 (.cells #[.int .i64 0, .int .i64 q2] 26) (.slice A l.length cap) day).below hb5 (Nat.le_refl _)
  have hb6 : Below w.heap.size w w5 := (((((hbA.trans (hb1.mono (by simp))).alloc (by omega) _).alloc (by simp; omega) _).alloc (by simp; omega) _)).trans (hb5.mono (by simp; omega))
  have B6 : Blk w5 w.heap.size 26 #[.int .i64 0, .int .i64 0] := (((B1.alloc (.cells #[.int .i64 0, .int .i64 q2] 26)).alloc (.map #[] 0)).alloc (.cells #[.slice A l.length cap, .int .i64 day, .map (some (w1.heap.size + 1))] 81)).below hb5 (by simp; omega)
  have hz5 := hb5.size
  simp at hz5
  replace ho := Lib.hid (show w5.ownsRow (w1.heap.size + 1 + 1) 3 1 (.slice A5 o.length cap5) o.length (o.map (Value.int .i64)) from own_mono ho (by simp))
  replace hO := Lib.hid hO
  clear hP hOrd hmm hb1 hb5 hbA B0 B1 g g2
  have hol4 : o.length ≤ 40 := by rw [hol.out]; exact h40
  go_loopg [34] o.length (fun q k wr => ∃ (i c : Nat) (M : List UInt8 → Option (Nat → Bool)), i ≤ o.length ∧ q = o.length - i ∧ k = .int .i64 i ∧ DayAt wr (w1.heap.size + 1 + 1) day (w1.heap.size + 1) i c M ∧ Hid (Known l env o i M) ∧ w5.grownBy wr (some (w1.heap.size + 1)))
  case atStart => exact ⟨0, 0, _, by omega, rfl, rfl, hD5, Lib.hid (Known.start _ _ _), grown_refl _ _⟩
  case round =>
    clear hD5
    obtain ⟨i, c, M, hi, hn, rfl, hD, hK, hgw⟩ := hrel
    replace hn := Lib.hid hn
    have zw := hgw.size
    have hbw : Below w.heap.size w wr := below_row hb6 hgw (by omega) (by omega)
    by_cases hlt : i < o.length
    · obtain ⟨k, hok, hkn⟩ := hO.out.inn _ (List.getElem_mem hlt)
      have hoi : o[i]? = some (k : Int) := by rw [List.getElem?_eq_getElem hlt, hok]
      clear hok
      obtain ⟨r, hx⟩ : ∃ r, l[k]? = some r := ⟨_, List.getElem?_eq_getElem hkn⟩
      obtain ⟨g5, cap6, he5, hg5, hc5⟩ := own_elem ho.out (i := i) (x := .int .i64 k) (by rw [List.getElem?_map, hoi]; rfl)
      have hg5b : w1.heap.size + 1 + 1 ≤ g5 := (ho.out.lt g5 (by rw [he5]; rfl)).1
      cases he5
      have c0 : wr.cell? ⟨g5, i, none⟩ = some (.int .i64 k) := (grown_cell hgw hg5 (by intro e; cases e; omega)).trans hc5
      obtain ⟨b, q, rfl, hbl, k0, hnl, hE⟩ := hc.out k r hx
      have c1 : wr.cell? ⟨b, q + k * 6, none⟩ = some (strV r.name) := (hbw.cell (p := ⟨b, _, none⟩) hbl).trans k0
      have zbl : b < wr.heap.size := by omega
      have hp := Lib.hid (hK.out.mean hme.out hright.out hO.out hoi hx)
      have hK2 := Lib.hid (hK.out.put hoi hx)
      have hexp := Lib.hid (fun m : After wr.heap.size wr => show Calls Tryd.prog 29 #[.pointer (some ⟨w1.heap.size + 1 + 1, 0, none⟩), .pointer (some ⟨b, q + k * 6 + 1, none⟩)] m.w (fun r' w' => r' = .returned (.agg (maskA (setW (env r.name)))) ∧ Below m.w.heap.size m.w w') from by
        have := expr_all wd day hd0 hd1 hwd M (nodesE r.expr) r.expr m.w w.heap.size b (q + k * 6 + 1) (w1.heap.size + 1 + 1) (w1.heap.size + 1) i c (Nat.le_refl _) ⟨1, 0, form_each hform.out hx⟩ (hE.below (hbw.trans (m.below.mono (by omega))) (Nat.le_refl _) (Nat.le_refl _) hbl) hbl (by have := m.size; omega) (hD.below m.below (Nat.le_refl _))
        unfold MeanPost envOf at this
        rw [hp.out] at this
        exact this)
      have d1 := hD.d1
      have d2 := hD.d2
      have zd := hD.lt
      have zm := hD.mlt
      clear hc5 k0 hE hp hx hoi
      go_wp2_with fail
      refine wp_region_below_tail 15 (wr.heap.size) _ (Below.refl _ _) (by kernel_rfl) (by kernel_rfl) ?_
      simp only [List.take_succ_cons, List.take_zero, List.drop_succ_cons, List.drop_zero]
      iterate 15 (go_big_quiet_step (((go_at_call 29; exact quiet_below (Nat.le_refl _) (hexp.out _)))))
      refine wpQuiet_nil ?_
      rintro _ ⟨m1, rfl⟩
      change wpList _ _ _ _ _ _
      have hD1 := hD.below m1.below (Nat.le_refl _)
      obtain ⟨ws, c', hrun, hI2, hgr⟩ := store_mask hD1.map (p := env r.name) (by omega) hnl
      have e1 := hD1.d1
      have e2 := hD1.d2
      have zs := hgr.size
      have zd1 := hD1.lt
      go_wp2
      go_roundg (o.length - (i + 1))
      case measure => rw [hn.out]; omega
      case rel =>
        refine ⟨i + 1, c', _, by omega, rfl, by go_num, ⟨(grown_cell hgr zd1 (by intro e; injection e with e; omega)).trans e1, (grown_cell hgr zd1 (by intro e; injection e with e; omega)).trans e2, by omega, by have := hD1.mlt; omega, hI2⟩, hK2, grown_grown (grown_below hgw m1.below) hgr⟩
    · obtain rfl : i = o.length := by omega
      have hall := Lib.hid (fun (k : Nat) (r : Rule) (hx : l[k]? = some r) => hK.out.all hO.out hol.out hx)
      have B7 : Blk wr w.heap.size 26 #[.int .i64 0, .int .i64 0] := (hgw.block w.heap.size (by have := B6.lt; omega) (by intro e; injection e with e; omega)).trans B6
      clear hK hgw hn hi ho hO hol B6 hb6 hlt
      obtain ⟨wo, rfl⟩ : ∃ wo : World, wo = wr := ⟨_, rfl⟩
      have d1 := hD.d1
      have d2 := hD.d2
      have zd := hD.lt
      have zm := hD.mlt
      go_wp2
      go_loopg [10, 56] l.length (fun q v k wr => ∃ j : Nat, j ≤ l.length ∧ q = l.length - j ∧ k = .int .i64 j ∧ Hid (MaskRow wr wo.heap.size v ((l.take j).map fun r => env r.name)) ∧ Below wo.heap.size wo wr)
      case atStart => exact ⟨0, by omega, rfl, rfl, Lib.hid (MaskRow.nil _ _), Below.refl _ _⟩
      case round =>
        obtain ⟨j, hj, hn, rfl, hS, hbq⟩ := hrel
        replace hn := Lib.hid hn
        have zq := hbq.size
        obtain ⟨A8, cap8, rfl⟩ := own_slice hS.out
        have hsl : ((l.take j).map fun r => env r.name).length ≤ l.length := by rw [List.length_map, List.length_take]; omega
        by_cases hlt : j < l.length
        · obtain ⟨r, hx⟩ : ∃ r, l[j]? = some r := ⟨_, List.getElem?_eq_getElem hlt⟩
          obtain ⟨b, o', rfl, hbl, k0, hnl, hE⟩ := hc.out j r hx
          have hbw2 : Below w.heap.size w wr := hbw.trans (hbq.mono (by omega))
          have zbl : b < wr.heap.size := by omega
          obtain ⟨v0, v1, v2, v3, hnl1, A1, cap1, v4, hkl1, hkv1⟩ := (hE.below hbw2 (Nat.le_refl _) (Nat.le_refl _) hbl).out
          have f0 : wr.cell? ⟨b, o' + j * 6, none⟩ = some (strV r.name) := (hbw2.cell (p := ⟨b, _, none⟩) hbl).trans k0
          have f1 : wr.cell? ⟨b, o' + j * 6 + 1, none⟩ = some (.int .i64 r.expr.kind) := v0
          have f2 : wr.cell? ⟨b, o' + j * 6 + 2, none⟩ = some (.int .i64 r.expr.a) := v1
          have f3 : wr.cell? ⟨b, o' + j * 6 + 3, none⟩ = some (.int .i64 r.expr.b) := v2
          have f4 : wr.cell? ⟨b, o' + j * 6 + 4, none⟩ = some (strV r.expr.name) := v3
          have f5 : wr.cell? ⟨b, o' + j * 6 + 5, none⟩ = some (.slice A1 r.expr.kids.length cap1) := v4
          have e2 : wr.cell? ⟨w1.heap.size + 1 + 1, 2, none⟩ = some (.map (some (w1.heap.size + 1))) := (hbq.cell (p := ⟨w1.heap.size + 1 + 1, _, none⟩) zd).trans d2
          have hbc : Below wo.heap.size wo (wr.alloc (.cells #[strV r.name, .int .i64 r.expr.kind, .int .i64 r.expr.a, .int .i64 r.expr.b, strV r.expr.name, .slice A1 r.expr.kids.length cap1] 50)) := hbq.alloc zq _
          have hS2 := Lib.hid (own_keep hS.out ((Below.refl wr.heap.size wr).alloc (Nat.le_refl _) (.cells #[strV r.name, .int .i64 r.expr.kind, .int .i64 r.expr.a, .int .i64 r.expr.b, strV r.expr.name, .slice A1 r.expr.kids.length cap1] 50)) (Nat.le_refl _))
          have hlk := (fun m : After (wr.heap.size + 1) (wr.alloc (.cells #[strV r.name, .int .i64 r.expr.kind, .int .i64 r.expr.a, .int .i64 r.expr.b, strV r.expr.name, .slice A1 r.expr.kids.length cap1] 50)) => look_mask (hD.map.below (hbc.trans (m.below.mono (by omega))) zm) hnl)
          have hev : envOf M r.name = env r.name := hall.out j r hx
          rw [hev] at hlk
          have htk : (l.take (j + 1)).map (fun r => env r.name) = (l.take j).map (fun r => env r.name) ++ [env r.name] := by rw [List.take_add_one, hx]; simp
          replace htk := Lib.hid htk
          generalize hp : env r.name = p1 at *
          clear hp hev
          generalize (l.take j).map (fun r => env r.name) = S0 at *
          clear v0 v1 v2 v3 v4 k0 hx hE hkv1
          go_wp2_with fail
          refine Fr.wp_region_made [(8, fun v _ w' => MadeAt p1 v w')] 9 (wr.heap.size + 1) (wr.alloc (.cells #[strV r.name, .int .i64 r.expr.kind, .int .i64 r.expr.a, .int .i64 r.expr.b, strV r.expr.name, .slice A1 r.expr.kids.length cap1] 50)) (Below.refl _ _) (by simp) (by kernel_rfl) (by kernel_rfl) ?_
          simp only [List.take_succ_cons, List.take_zero, List.drop_succ_cons, List.drop_zero]
          refine Fr.free_take 8 (Fr.class_ne _ _) (by rfl) (by rfl) ?_
          simp only [List.take_succ_cons, List.take_zero, List.drop_succ_cons, List.drop_zero]
          iterate 8 (go_big_quiet_step ((fail)))
          refine wpQuiet_nil ?_
          change Fr.wpFree _ _ _ _ _ _ _ _ 8 _ _
          refine Fr.free_ev rfl rfl (Nat.le_of_ble_eq_true rfl) (fun W hv => ?_) ?_
          · obtain ⟨⟨m5, rfl⟩, _⟩ := hv
            go_wp2
            exact ⟨(Below.refl _ _).alloc (Nat.le_refl _) _, MadeAt.new _ _⟩
          rintro v V1 V1' hv hg ⟨g9, rfl, hG9⟩
          clear hv hg
          simp only [Act.put, List.setIfInBounds_toArray, List.set_cons_succ, List.set_cons_zero]
          refine Fr.free_nil ?_
          intro wf hbd _
          have hG := Lib.hid (hG9.below (Fr.Bd.hd hbd) hG9.lt)
          obtain ⟨⟨m1, rfl⟩, _⟩ := hbd
          clear hG9
          change wpList _ _ _ _ _ _
          have hS3 := Lib.hid (own_keep hS2.out m1.below (by simp))
          have zz := m1.size
          simp at zz
          go_wp2_with (at_builtin; refine wp_pushG rfl (.tmp 60) (.tmp 68) rfl wo.heap.size _ S0 p1 g9 hS3.out hG.out rfl rfl (by omega) (by omega) ?_; intro v6 w6 hS6 hb6)
          go_roundg (l.length - (j + 1))
          case measure => rw [hn.out]; omega
          case rel => exact ⟨j + 1, by omega, rfl, by go_num, Lib.hid (by rw [htk.out]; exact hS6), (hbc.trans (m1.below.mono (by omega))).trans hb6⟩
        · obtain rfl : j = l.length := by omega
          have B8 := B7.below hbq (by have := B7.lt; omega)
          have s0 : wr.cell? ⟨w.heap.size, 0, none⟩ = some (.int .i64 0) := B8.cell 0
          have s1 : wr.cell? ⟨w.heap.size, 1, none⟩ = some (.int .i64 0) := B8.cell 1
          have t0 : wr.frozen? ⟨w.heap.size, 0, none⟩ = false := B8.frozen 0
          have t1 : wr.frozen? ⟨w.heap.size, 1, none⟩ = false := B8.frozen 1
          have hlw2 : w.heap.size < wr.heap.size := by omega
          have hls : ((l.take l.length).map fun r => env r.name).length = l.length := by simp
          rw [hls] at hS ⊢
          rw [List.take_length] at hS
          clear hls hsl
          generalize hS0 : l.map (fun r => env r.name) = S0 at *
          replace hS0 := Lib.hid hS0
          go_wp2
          have E := (B8.set 0 (.int .i64 0)).set 1 (.int .i64 0)
          have e0 := (E.cell 0).trans (show _ = some (Value.int .i64 0) from rfl)
          have e1 := (E.cell 1).trans (show _ = some (Value.int .i64 0) from rfl)
          refine bodyPost_ret (v := .tuple #[.slice A8 l.length cap8, .agg #[.int .i64 0, .int .i64 0]]) (by simp [results, Tryd.results12, e0, e1, go_sem]) rfl ⟨_, rfl, ?_, (((hbw.trans (hbq.mono (by omega))).setCell (by simp) _).setCell (by simp) _)⟩
          rw [hS0.out]
          unfold MaskRow
          exact own_mono (base := wo.heap.size) (own_far (own_far hS.out (p := ⟨w.heap.size, 0, none⟩) (by show w.heap.size < wo.heap.size; omega) _) (p := ⟨w.heap.size, 1, none⟩) (by show w.heap.size < wo.heap.size; omega) _) (by omega)

theorem MAll_any (v : Value) (l : List Rule) (env : List UInt8 → Nat → Bool) (wd : Nat) (day : Int) (hme : (wrongR l).1 = 0 → 0 ≤ day → day < 146097 → Means wd day l env) (hwd : 0 ≤ day → day < 146097 → Civ.weekI day = (wd : Nat)) (w : World) (hr : RulesV w w.heap.size v l) : Calls Tryd.prog 12 #[v, .int .i64 day] w (AllPost l env day w) := by
  by_cases h : (wrongR l).1 = 0
  · by_cases hd : day < 0 ∨ 146097 ≤ day
    · exact MAll_range v l env day w hr h hd
    · exact MAll_right v l env wd day (hme h (by omega) (by omega)) (hwd (by omega) (by omega)) w hr h (by omega) (by omega)
  · exact MAll_wrong v l env day w hr h
/-- of any rules and day: what names mean -/
theorem env_exists (l : List Rule) (day : Int) : ∃ (wd : Nat) (env : List UInt8 → Nat → Bool), ((wrongR l).1 = 0 → 0 ≤ day → day < 146097 → Means wd day l env) ∧ (0 ≤ day → day < 146097 → Civ.weekI day = (wd : Nat)) := by
  have hw : 0 ≤ day → Civ.weekI day = ((Civ.weekI day).toNat : Nat) := fun h => by
    have : Civ.weekI day = (day + 5) % 7 := rfl
    omega
  by_cases h : (wrongR l).1 = 0
  · obtain ⟨env, he⟩ := means_exists (Civ.weekI day).toNat day (right_of h)
    exact ⟨_, env, fun _ _ _ => he, fun h0 _ => hw h0⟩
  · exact ⟨_, fun _ => noS, fun h1 => absurd h1 h, fun h0 _ => hw h0⟩

end Ru
end Go.Proofs.YtbadplbdgpbdaaaDoor

namespace Go.Proofs.YtbadplbdgpbdaaaDoor
open Go.RowKit Go.Maps Go.ChangeShapes
namespace Ru
open Msk Vm
open Sl (strV Reads IntsV MasksV)

theorem mask_at {w : World} {base : Nat} {v : Value} {S : List (Nat → Bool)} (h : MaskRow w base v S) {i : Nat} {p : Nat → Bool} (hi : S[i]? = some p) : ∃ g cap, v = .slice (some ⟨g, 0, none⟩) S.length cap ∧ base ≤ g ∧ g < w.heap.size ∧ cellsAt w g (i * 23) 23 = some (maskA (setW p)) := by
  obtain ⟨g, cap, e, h1, h2, h3⟩ := own_at h maskL_len hi
  refine ⟨g, cap, e, ?_, h2, cellsAt_some.2 ⟨maskA_size _, fun j hj => ?_⟩⟩
  · rcases h.2 with ⟨e2, _⟩ | ⟨g', cap', cur, e2, hb, _⟩
    · rw [e2] at e; cases e
    · rw [e2] at e; cases e; exact hb
  · have hj2 : j < (maskA (setW p)).size := by rw [maskA_size]; exact hj
    rw [Array.getElem?_eq_getElem hj2]
    exact h3 j _ (by unfold maskL; rw [Array.getElem?_toList, Array.getElem?_eq_getElem hj2])

theorem row_reads {w : World} {base : Nat} {v : Value} {S : List (Nat → Bool)} (h : MaskRow w base v S) : MasksV w w.heap.size v (S.map setW) := by
  obtain ⟨A, cap, rfl⟩ := own_slice h
  refine ⟨A, cap, by rw [List.length_map], by rw [List.length_map]; exact own_max h, fun i f hf => ?_⟩
  rw [List.getElem?_map, Option.map_eq_some_iff] at hf
  obtain ⟨p, hp, rfl⟩ := hf
  obtain ⟨g, cap2, e, _, hg, hc⟩ := mask_at h hp
  cases e
  exact ⟨g, 0, rfl, hg, by rw [Nat.zero_add]; exact hc, fun k _ => setW_lt p k⟩










































end Ru
end Go.Proofs.YtbadplbdgpbdaaaDoor
