/- What an expression means on a day: (*mean.day).expr. -/
import Derived.Test.YtfhedopfjgjffaaMea
import Derived.Test.YtfhedopfjgjffaaMsE
import Derived.Test.YtfhedopfjgjffaaMap
import Derived.Test.YtfhedopfjgjffaaQt
import Derived.Test.YtfhedopfjgjffaaWk
import Derived.Test.YtfhedopfjgjffaaFrmW
import Derived.StringKeys
namespace Go.Proofs.Ytfhedopfjgjffaa
open Go.RowKit Go.Maps Go.ChangeShapes Go.WideMaps
namespace Ru
open Msk Vm
open Sl (strV Reads IntsV)

/-- an expression whose form is right -/
def GoodE (e : Expr) : Prop := ∃ deep n, (formE Lx.isName e deep n).1 = 0
theorem formL_good {l : List Expr} : ∀ {deep n : Nat}, (formL Lx.isName l deep n).1 = 0 → ∀ (i : Nat) (k : Expr), l[i]? = some k → GoodE k := by
  induction l with
  | nil => intro deep n _ i k hk; simp at hk
  | cons x l ih =>
    intro deep n h i k hk
    rw [formL] at h
    split at h
    · rename_i h0
      cases i with
      | zero => simp at hk; subst hk; exact ⟨deep, n, h0⟩
      | succ i => exact ih h i k (by simpa using hk)
    · rename_i h0; exact absurd h h0
theorem GoodE.own {e : Expr} (h : GoodE e) : ownErr Lx.isName e = 0 := by
  obtain ⟨deep, n, h⟩ := h
  rw [formE_eq] at h
  split at h
  · simp at h
  · split at h
    · assumption
    · rename_i h2; exact absurd h h2
theorem GoodE.kid {e : Expr} (h : GoodE e) {i : Nat} {k : Expr} (hk : e.kids[i]? = some k) : GoodE k := by
  obtain ⟨deep, n, h⟩ := h
  rw [formE_eq] at h
  split at h
  · simp at h
  · split at h
    · exact formL_good h i k hk
    · rename_i h2; exact absurd h h2
theorem own_facts {nm : List UInt8 → Bool} {e : Expr} (h : ownErr nm e = 0) : 1 ≤ e.kind ∧ e.kind ≤ 10 ∧ e.kids.length = kidsOf e.kind ∧ (e.kind = 4 → 1 ≤ e.a ∧ e.a ≤ 127) ∧ (e.kind = 5 → 0 ≤ e.a ∧ e.b < 146097) ∧ (e.kind = 3 → 0 ≤ e.a ∧ e.b ≤ 1440) ∧ (e.kind = 9 → -1440 < e.a ∧ e.a < 1440) := by
  unfold ownErr at h
  by_cases h1 : e.kind < 1 ∨ 10 < e.kind
  · rw [if_pos h1] at h; cases h
  rw [if_neg h1] at h
  by_cases h2 : e.kids.length ≠ kidsOf e.kind
  · rw [if_pos h2] at h; cases h
  rw [if_neg h2] at h
  refine ⟨by omega, by omega, by omega, fun e4 => ?_, fun e5 => ?_, fun e3 => ?_, fun e9 => ?_⟩
  · rw [if_neg (by omega), if_pos e4] at h
    split at h
    · cases h
    · omega
  · rw [if_neg (by omega), if_neg (by omega), if_pos e5] at h
    split at h
    · cases h
    · omega
  · rw [if_pos e3] at h
    split at h
    · cases h
    · omega
  · rw [if_neg (by omega), if_neg (by omega), if_neg (by omega), if_pos e9] at h
    split at h
    · cases h
    · omega
theorem kids_one {l : List Expr} (h : l.length = 1) : ∃ k, l = [k] := by
  match l, h with
  | [k], _ => exact ⟨k, rfl⟩
theorem kids_two {l : List Expr} (h : l.length = 2) : ∃ k1 k2, l = [k1, k2] := by
  match l, h with
  | [k1, k2], _ => exact ⟨k1, k2, rfl⟩

/-- masks by name, as a map keeps them -/
def envF (M : List UInt8 → Option (Nat → Bool)) : Lit → Option Value
  | .string b => (M b).map fun p => .agg (maskA (setW p))
  | _ => none
def putM (M : List UInt8 → Option (Nat → Bool)) (nm : List UInt8) (p : Nat → Bool) : List UInt8 → Option (Nat → Bool) := fun x => if x = nm then some p else M x
theorem put_envF (M : List UInt8 → Option (Nat → Bool)) (nm : List UInt8) (p : Nat → Bool) : Mp.put (envF M) (.string nm) (.agg (maskA (setW p))) = envF (putM M nm p) := by
  funext x
  unfold Mp.put
  cases e : x.sameKey (.string nm) with
  | true =>
    have := WideAt.sameKey_eq e
    subst this
    simp [envF, putM]
  | false =>
    simp only [Bool.false_eq_true, if_false]
    unfold envF
    split
    · rename_i y
      have hy : ¬ y = nm := fun e' => by subst e'; rw [WideAt.sameKey_self (show WideAt.IsKeyLit (.string y) from trivial)] at e; cases e
      simp [putM, hy]
    · rfl
theorem none_envF : (fun _ => none : Lit → Option Value) = envF (fun _ => none) := by
  funext x
  unfold envF
  split <;> simp
theorem zero_mask (w : World) : (zeroValue 46).run Try.prog w = .ok (.agg (maskA (fun _ => 0))) w := by
  rw [← zeroA]
  kernel_rfl
theorem key_str {nm : List UInt8} (h : nm.length ≤ 9223372036854775807) : keyOf Try.prog 9 (strV nm) = some (.string nm) := by
  have := keyOf_string_mk (P := Try.prog) Try.underlying9 (s := ⟨nm.toArray⟩) (by show nm.toArray.size ≤ maxLen; simp only [maxLen, List.size_toArray]; omega)
  simpa using this
/-- what the names mean -/
def envOf (M : List UInt8 → Option (Nat → Bool)) : List UInt8 → Nat → Bool := fun nm => (M nm).getD noS
section
variable {w : World} {mb n c : Nat} {M : List UInt8 → Option (Nat → Bool)}
theorem look_mask (hM : Mp.Is w Try.prog 9 mb n c (envF M)) {nm : List UInt8} (h : nm.length ≤ 9223372036854775807) :
    (Instr.lookup 107 (.map (some mb)) (strV nm) false).run Try.prog w = .ok (.agg (maskA (setW (envOf M nm)))) w := by
  have := hM.look (string_keyed Try.underlying9) Try.underlying107 (zero_mask w) (key_str h)
  rw [this]
  have e : envF M (.string nm) = (M nm).map fun p => .agg (maskA (setW p)) := rfl
  rw [e]
  unfold envOf
  cases M nm with
  | none =>
    have e2 : maskA (setW noS) = maskA (fun _ => 0) := zero_set
    simp only [Option.map_none, Option.getD_none, e2]
  | some p => rfl
theorem store_mask (hM : Mp.Is w Try.prog 9 mb n c (envF M)) {nm : List UInt8} {p : Nat → Bool} (hn : n < 1000000) (h : nm.length ≤ 9223372036854775807) :
    ∃ w' c', (Instr.mapUpdate 107 (.map (some mb)) (strV nm) (.agg (maskA (setW p)))).run Try.prog w = .ok () w' ∧ Mp.Is w' Try.prog 9 mb (n + 1) c' (envF (putM M nm p)) ∧ w.grownBy w' (some mb) := by
  obtain ⟨w', hr, hI, hg⟩ := hM.store (val := .agg (maskA (setW p))) (string_keyed Try.underlying9) Try.underlying107 (by simp only [maxLen]; omega) (key_str h)
  rw [put_envF] at hI
  exact ⟨w', _, hr, hI, hg⟩
end

/-- what the walk of a day's expressions leans on: the day, the map of masks -/
structure DayAt (w : World) (db : Nat) (day : Int) (mb n c : Nat) (M : List UInt8 → Option (Nat → Bool)) : Prop where
  d1 : w.cell? ⟨db, 1, none⟩ = some (.int .i64 day)
  d2 : w.cell? ⟨db, 2, none⟩ = some (.map (some mb))
  lt : db < w.heap.size
  mlt : mb < w.heap.size
  map : Mp.Is w Try.prog 9 mb n c (envF M)
theorem DayAt.below {w w' : World} {db mb n c : Nat} {day : Int} {M : List UInt8 → Option (Nat → Bool)} (h : DayAt w db day mb n c M) {B : Nat} (hb : Below B w w') (hB : w.heap.size ≤ B) : DayAt w' db day mb n c M := by
  have h1 := h.lt
  have h2 := h.mlt
  have h3 := hb.size
  exact ⟨(hb.cell (p := ⟨db, _, none⟩) (by show db < B; omega)).trans h.d1, (hb.cell (p := ⟨db, _, none⟩) (by show db < B; omega)).trans h.d2, by omega, by omega, h.map.below hb (by omega)⟩
theorem mask_put {w : World} {g : Nat} {t : TypeId} (f : Nat → Nat) (p : Nat → Bool) (h : Blk w g t (maskA f)) : cellsAt (w.setRow g (maskA (setW p))) g 0 23 = some (maskA (setW p)) := blk_cells (h.setRow _)

def MeanPost (wd : Nat) (day : Int) (M : List UInt8 → Option (Nat → Bool)) (e : Expr) (w : World) (r : Ending) (w' : World) : Prop := r = .returned (.agg (maskA (setW (meanE wd day (envOf M) e)))) ∧ Below w.heap.size w w'
/-- what is said of all smaller expressions -/
def MeanAll (wd : Nat) (day : Int) (M : List UInt8 → Option (Nat → Bool)) (N : Nat) : Prop := ∀ (e : Expr) (w : World) (gs b o db mb n c : Nat), nodesE e ≤ N → GoodE e → ExprAt w gs b o e → b < gs → gs ≤ w.heap.size → DayAt w db day mb n c M →
    Calls Try.prog 66 #[.pointer (some ⟨db, 0, none⟩), .pointer (some ⟨b, o, none⟩)] w (MeanPost wd day M e w)

set_option maxRecDepth 100000 in
set_option maxHeartbeats 4000000 in
theorem expr_1 (wd : Nat) (day : Int) (M : List UInt8 → Option (Nat → Bool)) (x y : Int) (nm : List UInt8) (kids : List Expr) (w : World) (gs b o db mb n c : Nat)
    (hg : GoodE (.mk 1 x y nm kids)) (he : ExprAt w gs b o (.mk 1 x y nm kids)) (hb : b < gs) (hgs : gs ≤ w.heap.size) (hD : DayAt w db day mb n c M) :
    Calls Try.prog 66 #[.pointer (some ⟨db, 0, none⟩), .pointer (some ⟨b, o, none⟩)] w (MeanPost wd day M (.mk 1 x y nm kids) w) := by
  obtain ⟨k0, k1, k2, k3, hnl, A, cap, k4, hkl, hkv⟩ := he.out
  have hof := own_facts hg.own
  simp only [Expr.kind, Expr.a, Expr.b, Expr.name, Expr.kids] at k0 k1 k2 k3 k4 hnl hkl hkv hof
  obtain ⟨-, -, hlen, -⟩ := hof
  have d1 := hD.d1
  have d2 := hD.d2
  have zd := hD.lt
  have zb : b < w.heap.size := by omega
  have hmean : meanE wd day (envOf M) (.mk 1 x y nm kids) = meanK wd day 1 x y (envOf M nm) (meanL wd day (envOf M) kids) := by rw [meanE]
  have B0 := Blk.new w 46 (maskA fun _ => 0)
  have hbA : Below w.heap.size w (w.alloc (.cells (maskA fun _ => 0) 46)) := (Below.refl _ _).alloc (Nat.le_refl _) _
  clear he
  have hres := Lib.hid (show meanE wd day (envOf M) (.mk 1 x y nm kids) = noS by rw [hmean]; rfl)
  have k7 := blk_free B0
  have k8 := mask_put _ noS B0
  have e9 : maskA (setW noS) = maskA (fun _ => 0) := zero_set
  rw [e9] at k8
  clear hmean hg hD hkv
  go_enter Try.func66, Try.ntmps66
  go_wp2
  refine bodyPost_ret (v := .agg (maskA fun _ => 0)) ?_ rfl ⟨by rw [hres.out, e9], (by repeat (first | exact Below.refl _ _ | assumption | refine Below.n _ ?_ (by first | omega | (simp; done) | (simp; omega)) | refine Below.alloc ?_ (by first | omega | (simp; done) | (simp; omega)) _ | refine Below.setCell ?_ (by first | omega | (simp; done) | (simp; omega)) _ | refine Below.drew ?_ | refine Below.setRow ?_ (by first | omega | (simp; done) | (simp; omega)) _ | refine Below.drewN ?_ _))⟩
  simp [results, Try.results66, go_sem, k8]

set_option maxRecDepth 100000 in
set_option maxHeartbeats 4000000 in
theorem expr_2 (wd : Nat) (day : Int) (M : List UInt8 → Option (Nat → Bool)) (x y : Int) (nm : List UInt8) (kids : List Expr) (w : World) (gs b o db mb n c : Nat)
    (hg : GoodE (.mk 2 x y nm kids)) (he : ExprAt w gs b o (.mk 2 x y nm kids)) (hb : b < gs) (hgs : gs ≤ w.heap.size) (hD : DayAt w db day mb n c M) :
    Calls Try.prog 66 #[.pointer (some ⟨db, 0, none⟩), .pointer (some ⟨b, o, none⟩)] w (MeanPost wd day M (.mk 2 x y nm kids) w) := by
  obtain ⟨k0, k1, k2, k3, hnl, A, cap, k4, hkl, hkv⟩ := he.out
  have hof := own_facts hg.own
  simp only [Expr.kind, Expr.a, Expr.b, Expr.name, Expr.kids] at k0 k1 k2 k3 k4 hnl hkl hkv hof
  obtain ⟨-, -, hlen, -⟩ := hof
  have d1 := hD.d1
  have d2 := hD.d2
  have zd := hD.lt
  have zb : b < w.heap.size := by omega
  have hmean : meanE wd day (envOf M) (.mk 2 x y nm kids) = meanK wd day 2 x y (envOf M nm) (meanL wd day (envOf M) kids) := by rw [meanE]
  have B0 := Blk.new w 46 (maskA fun _ => 0)
  have hbA : Below w.heap.size w (w.alloc (.cells (maskA fun _ => 0) 46)) := (Below.refl _ _).alloc (Nat.le_refl _) _
  clear he
  have hres := Lib.hid (show meanE wd day (envOf M) (.mk 2 x y nm kids) = inSpans [(0, 1440)] by rw [hmean]; rfl)
  clear hmean hg hD hkv
  go_enter Try.func66, Try.ntmps66
  go_wp2_with fail
  refine (SOf _ [(0, 1440)] _ (SpansV.one (by simp) (by simp))).mono ?_
  rintro e w1 ⟨rfl, hb1⟩
  obtain ⟨n1, rfl⟩ := After.of hb1
  have s1 := n1.size
  simp at s1
  have B2 := (B0.alloc (.cells #[.int .i64 0, .int .i64 1440] 103)).after n1 (by simp; omega)
  have k7 := blk_free B2
  go_wp2
  refine bodyPost_ret (v := .agg (maskA (setW (inSpans [(0, 1440)])))) ?_ rfl ⟨by rw [hres.out], (by repeat (first | exact Below.refl _ _ | assumption | refine Below.n _ ?_ (by first | omega | (simp; done) | (simp; omega)) | refine Below.alloc ?_ (by first | omega | (simp; done) | (simp; omega)) _ | refine Below.setCell ?_ (by first | omega | (simp; done) | (simp; omega)) _ | refine Below.drew ?_ | refine Below.setRow ?_ (by first | omega | (simp; done) | (simp; omega)) _ | refine Below.drewN ?_ _))⟩
  have k8 := mask_put _ (inSpans [(0, 1440)]) B2
  simp [results, Try.results66, go_sem, k8]

set_option maxRecDepth 100000 in
set_option maxHeartbeats 4000000 in
theorem expr_3 (wd : Nat) (day : Int) (M : List UInt8 → Option (Nat → Bool)) (x y : Int) (nm : List UInt8) (kids : List Expr) (w : World) (gs b o db mb n c : Nat)
    (hg : GoodE (.mk 3 x y nm kids)) (he : ExprAt w gs b o (.mk 3 x y nm kids)) (hb : b < gs) (hgs : gs ≤ w.heap.size) (hD : DayAt w db day mb n c M) :
    Calls Try.prog 66 #[.pointer (some ⟨db, 0, none⟩), .pointer (some ⟨b, o, none⟩)] w (MeanPost wd day M (.mk 3 x y nm kids) w) := by
  obtain ⟨k0, k1, k2, k3, hnl, A, cap, k4, hkl, hkv⟩ := he.out
  have hof := own_facts hg.own
  simp only [Expr.kind, Expr.a, Expr.b, Expr.name, Expr.kids] at k0 k1 k2 k3 k4 hnl hkl hkv hof
  obtain ⟨-, -, hlen, -⟩ := hof
  have d1 := hD.d1
  have d2 := hD.d2
  have zd := hD.lt
  have zb : b < w.heap.size := by omega
  have hmean : meanE wd day (envOf M) (.mk 3 x y nm kids) = meanK wd day 3 x y (envOf M nm) (meanL wd day (envOf M) kids) := by rw [meanE]
  have B0 := Blk.new w 46 (maskA fun _ => 0)
  have hbA : Below w.heap.size w (w.alloc (.cells (maskA fun _ => 0) 46)) := (Below.refl _ _).alloc (Nat.le_refl _) _
  clear he
  have hres := Lib.hid (show meanE wd day (envOf M) (.mk 3 x y nm kids) = inSpans [(x, y)] by rw [hmean]; rfl)
  clear hmean hg hD hkv
  go_enter Try.func66, Try.ntmps66
  go_wp2_with fail
  refine wp_region_below_tail 9 (w.heap.size + 1) _ (Below.refl _ _) (by kernel_rfl) (by kernel_rfl) ?_
  simp only [List.take_succ_cons, List.take_zero, List.drop_succ_cons, List.drop_zero]
  iterate 9 (go_big_quiet_step ((fail)))
  refine wpQuiet_nil ?_
  rintro _ ⟨m1, rfl⟩
  change wpList _ _ _ _ _ _
  have B1 := B0.after m1 (by simp)
  have s1 := m1.size
  simp at s1
  go_wp2_with (go_at_call 89; refine (SOf _ [(x, y)] _ (SpansV.one rfl (by simp))).mono ?_; rintro e w1 ⟨rfl, hb1⟩; have s2 := hb1.size; simp at s2; have B2 := (B1.alloc (.cells #[.int .i64 x, .int .i64 y] 103)).below hb1 (by simp; omega); have k7 := blk_free B2)
  refine bodyPost_ret (v := .agg (maskA (setW (inSpans [(x, y)])))) ?_ rfl ⟨by rw [hres.out], ?_⟩
  · have k8 := mask_put _ (inSpans [(x, y)]) B2
    simp [results, Try.results66, go_sem, k8]
  · exact Below.setRow ((((hbA.trans (m1.below.mono (by omega))).alloc (by omega) _)).trans (hb1.mono (by simp; omega))) (Nat.le_refl _) _

set_option maxRecDepth 100000 in
set_option maxHeartbeats 4000000 in
theorem expr_4 (wd : Nat) (day : Int) (hd0 : 0 ≤ day) (hd1 : day < 146097) (hwd : Civ.weekI day = (wd : Nat)) (M : List UInt8 → Option (Nat → Bool)) (N : Nat) (ih : MeanAll wd day M N) (x y : Int) (nm : List UInt8) (kids : List Expr) (w : World) (gs b o db mb n c : Nat)
    (hN : nodesL kids ≤ N) (hg : GoodE (.mk 4 x y nm kids)) (he : ExprAt w gs b o (.mk 4 x y nm kids)) (hb : b < gs) (hgs : gs ≤ w.heap.size) (hD : DayAt w db day mb n c M) :
    Calls Try.prog 66 #[.pointer (some ⟨db, 0, none⟩), .pointer (some ⟨b, o, none⟩)] w (MeanPost wd day M (.mk 4 x y nm kids) w) := by
  obtain ⟨k0, k1, k2, k3, hnl, A, cap, k4, hkl, hkv⟩ := he.out
  have hof := own_facts hg.own
  simp only [Expr.kind, Expr.a, Expr.b, Expr.name, Expr.kids] at k0 k1 k2 k3 k4 hnl hkl hkv hof
  obtain ⟨-, -, hlen, -⟩ := hof
  have d1 := hD.d1
  have d2 := hD.d2
  have zd := hD.lt
  have zb : b < w.heap.size := by omega
  have hmean : meanE wd day (envOf M) (.mk 4 x y nm kids) = meanK wd day 4 x y (envOf M nm) (meanL wd day (envOf M) kids) := by rw [meanE]
  have B0 := Blk.new w 46 (maskA fun _ => 0)
  have hbA : Below w.heap.size w (w.alloc (.cells (maskA fun _ => 0) 46)) := (Below.refl _ _).alloc (Nat.le_refl _) _
  clear he
  obtain ⟨e1, rfl⟩ := kids_one hlen
  clear hlen
  obtain ⟨kb, ko, rfl, hkb, hke⟩ := hkv.at' (i := 0) (e := e1) rfl
  have hn1 : nodesE e1 ≤ N := by have := nodesE_kid (l := [e1]) (i := 0) (e := e1) rfl; omega
  have hg1 := hg.kid (i := 0) (k := e1) rfl
  have hE1 := Lib.hid (fun m : After (w.heap.size + 1) (w.alloc (.cells (maskA fun _ => 0) 46)) => show Calls Try.prog 66 #[.pointer (some ⟨db, 0, none⟩), .pointer (some ⟨kb, ko, none⟩)] m.w (fun r w' => r = .returned (.agg (maskA (setW (meanE wd day (envOf M) e1)))) ∧ Below m.w.heap.size m.w w') from by have hW := hbA.trans (m.below.mono (show w.heap.size ≤ w.heap.size + 1 by omega)); have := ih e1 m.w gs kb (ko + 0 * 5) db mb n c hn1 hg1 (hke.below hW hgs (Nat.le_refl _) (by omega)) hkb (by have := hW.size; omega) (hD.below hW (Nat.le_refl _)); exact this)
  have hG : meanE wd day (envOf M) (.mk 4 x y nm [e1]) = if (bits BinOp.and IntKind.i64 (x / 2 ^ wd) 1 == 1) = true then meanE wd day (envOf M) e1 else noS := by rw [hmean, meanL, meanL]; rfl
  replace hG := Lib.hid hG
  generalize meanE wd day (envOf M) e1 = p1 at *
  have hw7 : wd ≤ 6 := by have : Civ.weekI day = (day + 5) % 7 := rfl; omega
  have hmn : min wd 64 = wd := by omega
  have hW := Lib.hid (fun W => show Calls Try.prog 27 #[.int .i64 day] W (fun e w' => e = .returned (.int .i64 (wd : Nat)) ∧ W = w') from by have := Wk.Week_any day W (by omega) (by omega); rwa [hwd] at this)
  clear hmean hg hD hkv ih hke hg1
  go_enter Try.func66, Try.ntmps66
  go_wp2_with fail
  refine wp_region_below (w.heap.size + 1) _ (Below.refl _ _) (by kernel_rfl) (by kernel_rfl) ?_
  repeat (go_big_quiet_step (((go_at_call 27; exact quiet_same (hW.out _)))))
  refine wpQuiet_nil ?_
  rintro _ ⟨n1, rfl⟩
  have B1 := B0.after n1 (by simp)
  have s1 := n1.size
  simp at s1
  have hb1 : Below w.heap.size w n1.w := hbA.trans (n1.below.mono (by omega))
  have q4 : n1.w.cell? ⟨b, o + 4, none⟩ = some (.slice (some ⟨kb, ko, none⟩) 1 cap) := (hb1.cell (p := ⟨b, _, none⟩) zb).trans k4
  cases hgb : (bits BinOp.and IntKind.i64 (x / 2 ^ wd) 1 == 1) with
  | true =>
    have hG1 := Lib.hid (hG.out.trans (if_pos hgb))
    clear hgb
    go_wp2_with (go_at_call 66; refine (hE1.out n1).mono ?_; rintro e w2 ⟨rfl, hb2⟩; have B2 := B1.below hb2 (by omega); have k7 := blk_free B2)
    have k8 := mask_put _ p1 B2
    refine bodyPost_ret (v := .agg (maskA (setW p1))) ?_ rfl ⟨by rw [hG1.out], Below.setRow (hb1.trans (hb2.mono (by omega))) (Nat.le_refl _) _⟩
    simp [results, Try.results66, go_sem, k8]
  | false =>
    have hG1 := Lib.hid (hG.out.trans (if_neg (by rw [hgb]; decide)))
    clear hgb
    have k7 := blk_free B1
    have k8 := mask_put _ noS B1
    have e9 : maskA (setW noS) = maskA (fun _ => 0) := zero_set
    rw [e9] at k8
    go_wp2
    refine bodyPost_ret (v := .agg (maskA fun _ => 0)) ?_ rfl ⟨by rw [hG1.out, e9], Below.setRow hb1 (Nat.le_refl _) _⟩
    simp [results, Try.results66, go_sem, k8]

set_option maxRecDepth 100000 in
set_option maxHeartbeats 4000000 in
theorem expr_5 (wd : Nat) (day : Int) (M : List UInt8 → Option (Nat → Bool)) (N : Nat) (ih : MeanAll wd day M N) (x y : Int) (nm : List UInt8) (kids : List Expr) (w : World) (gs b o db mb n c : Nat)
    (hN : nodesL kids ≤ N) (hg : GoodE (.mk 5 x y nm kids)) (he : ExprAt w gs b o (.mk 5 x y nm kids)) (hb : b < gs) (hgs : gs ≤ w.heap.size) (hD : DayAt w db day mb n c M) :
    Calls Try.prog 66 #[.pointer (some ⟨db, 0, none⟩), .pointer (some ⟨b, o, none⟩)] w (MeanPost wd day M (.mk 5 x y nm kids) w) := by
  obtain ⟨k0, k1, k2, k3, hnl, A, cap, k4, hkl, hkv⟩ := he.out
  have hof := own_facts hg.own
  simp only [Expr.kind, Expr.a, Expr.b, Expr.name, Expr.kids] at k0 k1 k2 k3 k4 hnl hkl hkv hof
  obtain ⟨-, -, hlen, -⟩ := hof
  have d1 := hD.d1
  have d2 := hD.d2
  have zd := hD.lt
  have zb : b < w.heap.size := by omega
  have hmean : meanE wd day (envOf M) (.mk 5 x y nm kids) = meanK wd day 5 x y (envOf M nm) (meanL wd day (envOf M) kids) := by rw [meanE]
  have B0 := Blk.new w 46 (maskA fun _ => 0)
  have hbA : Below w.heap.size w (w.alloc (.cells (maskA fun _ => 0) 46)) := (Below.refl _ _).alloc (Nat.le_refl _) _
  clear he
  obtain ⟨e1, rfl⟩ := kids_one hlen
  clear hlen
  obtain ⟨kb, ko, rfl, hkb, hke⟩ := hkv.at' (i := 0) (e := e1) rfl
  have hn1 : nodesE e1 ≤ N := by have := nodesE_kid (l := [e1]) (i := 0) (e := e1) rfl; omega
  have hg1 := hg.kid (i := 0) (k := e1) rfl
  have hE1 := Lib.hid (fun m : After (w.heap.size + 1) (w.alloc (.cells (maskA fun _ => 0) 46)) => show Calls Try.prog 66 #[.pointer (some ⟨db, 0, none⟩), .pointer (some ⟨kb, ko, none⟩)] m.w (fun r w' => r = .returned (.agg (maskA (setW (meanE wd day (envOf M) e1)))) ∧ Below m.w.heap.size m.w w') from by have hW := hbA.trans (m.below.mono (show w.heap.size ≤ w.heap.size + 1 by omega)); have := ih e1 m.w gs kb (ko + 0 * 5) db mb n c hn1 hg1 (hke.below hW hgs (Nat.le_refl _) (by omega)) hkb (by have := hW.size; omega) (hD.below hW (Nat.le_refl _)); exact this)
  have hG : meanE wd day (envOf M) (.mk 5 x y nm [e1]) = if (decide (x ≤ day) && decide (day ≤ y)) = true then meanE wd day (envOf M) e1 else noS := by rw [hmean, meanL, meanL]; rfl
  replace hG := Lib.hid hG
  generalize meanE wd day (envOf M) e1 = p1 at *
  clear hmean hg hD hkv ih hke hg1
  go_enter Try.func66, Try.ntmps66
  rcases dec (x ≤ day) with ⟨q1, _⟩ | ⟨q1, _⟩
  · rcases dec (day ≤ y) with ⟨q2, _⟩ | ⟨q2, _⟩
    · have hgb : (decide (x ≤ day) && decide (day ≤ y)) = true := by rw [q1, q2]; rfl
      go_wp2_with fail
      refine wp_region_below (w.heap.size + 1) _ (Below.refl _ _) (by kernel_rfl) (by kernel_rfl) ?_
      repeat (go_big_quiet_step ((fail)))
      refine wpQuiet_nil ?_
      rintro _ ⟨n1, rfl⟩
      have B1 := B0.after n1 (by simp)
      have s1 := n1.size
      simp at s1
      have hb1 : Below w.heap.size w n1.w := hbA.trans (n1.below.mono (by omega))
      have q4 : n1.w.cell? ⟨b, o + 4, none⟩ = some (.slice (some ⟨kb, ko, none⟩) 1 cap) := (hb1.cell (p := ⟨b, _, none⟩) zb).trans k4
      have hG1 := Lib.hid (hG.out.trans (if_pos hgb))
      clear hgb
      go_wp2_with (go_at_call 66; refine (hE1.out n1).mono ?_; rintro e w2 ⟨rfl, hb2⟩; have B2 := B1.below hb2 (by omega); have k7 := blk_free B2)
      have k8 := mask_put _ p1 B2
      refine bodyPost_ret (v := .agg (maskA (setW p1))) ?_ rfl ⟨by rw [hG1.out], Below.setRow (hb1.trans (hb2.mono (by omega))) (Nat.le_refl _) _⟩
      simp [results, Try.results66, go_sem, k8]
    · have hgb : (decide (x ≤ day) && decide (day ≤ y)) = false := by rw [q1, q2]; rfl
      go_wp2_with fail
      refine wp_region_below (w.heap.size + 1) _ (Below.refl _ _) (by kernel_rfl) (by kernel_rfl) ?_
      repeat (go_big_quiet_step ((fail)))
      refine wpQuiet_nil ?_
      rintro _ ⟨n1, rfl⟩
      have B1 := B0.after n1 (by simp)
      have s1 := n1.size
      simp at s1
      have hb1 : Below w.heap.size w n1.w := hbA.trans (n1.below.mono (by omega))
      have q4 : n1.w.cell? ⟨b, o + 4, none⟩ = some (.slice (some ⟨kb, ko, none⟩) 1 cap) := (hb1.cell (p := ⟨b, _, none⟩) zb).trans k4
      have hG1 := Lib.hid (hG.out.trans (if_neg (by rw [hgb]; decide)))
      clear hgb
      have k7 := blk_free B1
      have k8 := mask_put _ noS B1
      have e9 : maskA (setW noS) = maskA (fun _ => 0) := zero_set
      rw [e9] at k8
      go_wp2
      refine bodyPost_ret (v := .agg (maskA fun _ => 0)) ?_ rfl ⟨by rw [hG1.out, e9], Below.setRow hb1 (Nat.le_refl _) _⟩
      simp [results, Try.results66, go_sem, k8]
  · have hgb : (decide (x ≤ day) && decide (day ≤ y)) = false := by rw [q1]; rfl
    go_wp2_with fail
    refine wp_region_below (w.heap.size + 1) _ (Below.refl _ _) (by kernel_rfl) (by kernel_rfl) ?_
    repeat (go_big_quiet_step ((fail)))
    refine wpQuiet_nil ?_
    rintro _ ⟨n1, rfl⟩
    have B1 := B0.after n1 (by simp)
    have s1 := n1.size
    simp at s1
    have hb1 : Below w.heap.size w n1.w := hbA.trans (n1.below.mono (by omega))
    have q4 : n1.w.cell? ⟨b, o + 4, none⟩ = some (.slice (some ⟨kb, ko, none⟩) 1 cap) := (hb1.cell (p := ⟨b, _, none⟩) zb).trans k4
    have hG1 := Lib.hid (hG.out.trans (if_neg (by rw [hgb]; decide)))
    clear hgb
    have k7 := blk_free B1
    have k8 := mask_put _ noS B1
    have e9 : maskA (setW noS) = maskA (fun _ => 0) := zero_set
    rw [e9] at k8
    go_wp2
    refine bodyPost_ret (v := .agg (maskA fun _ => 0)) ?_ rfl ⟨by rw [hG1.out, e9], Below.setRow hb1 (Nat.le_refl _) _⟩
    simp [results, Try.results66, go_sem, k8]

set_option maxRecDepth 100000 in
set_option maxHeartbeats 4000000 in
theorem expr_6 (wd : Nat) (day : Int) (M : List UInt8 → Option (Nat → Bool)) (N : Nat) (ih : MeanAll wd day M N) (x y : Int) (nm : List UInt8) (kids : List Expr) (w : World) (gs b o db mb n c : Nat)
    (hN : nodesL kids ≤ N) (hg : GoodE (.mk 6 x y nm kids)) (he : ExprAt w gs b o (.mk 6 x y nm kids)) (hb : b < gs) (hgs : gs ≤ w.heap.size) (hD : DayAt w db day mb n c M) :
    Calls Try.prog 66 #[.pointer (some ⟨db, 0, none⟩), .pointer (some ⟨b, o, none⟩)] w (MeanPost wd day M (.mk 6 x y nm kids) w) := by
  obtain ⟨k0, k1, k2, k3, hnl, A, cap, k4, hkl, hkv⟩ := he.out
  have hof := own_facts hg.own
  simp only [Expr.kind, Expr.a, Expr.b, Expr.name, Expr.kids] at k0 k1 k2 k3 k4 hnl hkl hkv hof
  obtain ⟨-, -, hlen, -⟩ := hof
  have d1 := hD.d1
  have d2 := hD.d2
  have zd := hD.lt
  have zb : b < w.heap.size := by omega
  have hmean : meanE wd day (envOf M) (.mk 6 x y nm kids) = meanK wd day 6 x y (envOf M nm) (meanL wd day (envOf M) kids) := by rw [meanE]
  have B0 := Blk.new w 46 (maskA fun _ => 0)
  have hbA : Below w.heap.size w (w.alloc (.cells (maskA fun _ => 0) 46)) := (Below.refl _ _).alloc (Nat.le_refl _) _
  clear he
  obtain ⟨e1, e2, rfl⟩ := kids_two hlen
  clear hlen
  obtain ⟨kb, ko, rfl, hkb, hke⟩ := hkv.at' (i := 0) (e := e1) rfl
  obtain ⟨kb', ko', hee, _, hkf⟩ := hkv.at' (i := 1) (e := e2) rfl
  cases hee
  have hn1 : nodesE e1 ≤ N := by have := nodesE_kid (l := [e1, e2]) (i := 0) (e := e1) rfl; omega
  have hn2 : nodesE e2 ≤ N := by have := nodesE_kid (l := [e1, e2]) (i := 1) (e := e2) rfl; omega
  have hg1 := hg.kid (i := 0) (k := e1) rfl
  have hg2 := hg.kid (i := 1) (k := e2) rfl
  have hE1 := Lib.hid (fun m : After (w.heap.size + 1) (w.alloc (.cells (maskA fun _ => 0) 46)) => show Calls Try.prog 66 #[.pointer (some ⟨db, 0, none⟩), .pointer (some ⟨kb, ko, none⟩)] m.w (fun r w' => r = .returned (.agg (maskA (setW (meanE wd day (envOf M) e1)))) ∧ Below m.w.heap.size m.w w') from by have hW := hbA.trans (m.below.mono (show w.heap.size ≤ w.heap.size + 1 by omega)); have := ih e1 m.w gs kb (ko + 0 * 5) db mb n c hn1 hg1 (hke.below hW hgs (Nat.le_refl _) (by omega)) hkb (by have := hW.size; omega) (hD.below hW (Nat.le_refl _)); exact this)
  have hE2 := Lib.hid (fun m : After (w.heap.size + 1) (w.alloc (.cells (maskA fun _ => 0) 46)) => show Calls Try.prog 66 #[.pointer (some ⟨db, 0, none⟩), .pointer (some ⟨kb, ko + 5, none⟩)] m.w (fun r w' => r = .returned (.agg (maskA (setW (meanE wd day (envOf M) e2)))) ∧ Below m.w.heap.size m.w w') from by have hW := hbA.trans (m.below.mono (show w.heap.size ≤ w.heap.size + 1 by omega)); have := ih e2 m.w gs kb (ko + 1 * 5) db mb n c hn2 hg2 (hkf.below hW hgs (Nat.le_refl _) (by omega)) hkb (by have := hW.size; omega) (hD.below hW (Nat.le_refl _)); exact this)
  have hG : meanE wd day (envOf M) (.mk 6 x y nm [e1, e2]) = orS (meanE wd day (envOf M) e1) (meanE wd day (envOf M) e2) := by rw [hmean, meanL, meanL, meanL]; rfl
  replace hG := Lib.hid hG
  generalize meanE wd day (envOf M) e1 = p1 at *
  generalize meanE wd day (envOf M) e2 = p2 at *
  clear hmean hg hD hkv ih hke hkf hg1 hg2
  go_enter Try.func66, Try.ntmps66
  go_wp2_with fail
  refine wp_region_below_tail 15 (w.heap.size + 1) _ (Below.refl _ _) (by kernel_rfl) (by kernel_rfl) ?_
  simp only [List.take_succ_cons, List.take_zero, List.drop_succ_cons, List.drop_zero]
  iterate 15 (go_big_quiet_step (((first | (go_at_call 66; first | with_reducible exact quiet_below (by simp) (hE1.out _) | with_reducible exact quiet_below (by simp) (hE2.out _)) | (go_at_call 24; exact quiet_below (by simp) (SUnion p1 p2 _))))))
  refine wpQuiet_nil ?_
  rintro _ ⟨m1, rfl⟩
  change wpList _ _ _ _ _ _
  have B1 := B0.after m1 (by simp)
  have hb1 : Below w.heap.size w m1.w := hbA.trans (m1.below.mono (by omega))
  have k7 := blk_free B1
  have k8 := mask_put _ (orS p1 p2) B1
  go_wp2
  refine bodyPost_ret (v := .agg (maskA (setW (orS p1 p2)))) ?_ rfl ⟨by rw [hG.out], Below.setRow hb1 (Nat.le_refl _) _⟩
  simp [results, Try.results66, go_sem, k8]

set_option maxRecDepth 100000 in
set_option maxHeartbeats 4000000 in
theorem expr_7 (wd : Nat) (day : Int) (M : List UInt8 → Option (Nat → Bool)) (N : Nat) (ih : MeanAll wd day M N) (x y : Int) (nm : List UInt8) (kids : List Expr) (w : World) (gs b o db mb n c : Nat)
    (hN : nodesL kids ≤ N) (hg : GoodE (.mk 7 x y nm kids)) (he : ExprAt w gs b o (.mk 7 x y nm kids)) (hb : b < gs) (hgs : gs ≤ w.heap.size) (hD : DayAt w db day mb n c M) :
    Calls Try.prog 66 #[.pointer (some ⟨db, 0, none⟩), .pointer (some ⟨b, o, none⟩)] w (MeanPost wd day M (.mk 7 x y nm kids) w) := by
  obtain ⟨k0, k1, k2, k3, hnl, A, cap, k4, hkl, hkv⟩ := he.out
  have hof := own_facts hg.own
  simp only [Expr.kind, Expr.a, Expr.b, Expr.name, Expr.kids] at k0 k1 k2 k3 k4 hnl hkl hkv hof
  obtain ⟨-, -, hlen, -⟩ := hof
  have d1 := hD.d1
  have d2 := hD.d2
  have zd := hD.lt
  have zb : b < w.heap.size := by omega
  have hmean : meanE wd day (envOf M) (.mk 7 x y nm kids) = meanK wd day 7 x y (envOf M nm) (meanL wd day (envOf M) kids) := by rw [meanE]
  have B0 := Blk.new w 46 (maskA fun _ => 0)
  have hbA : Below w.heap.size w (w.alloc (.cells (maskA fun _ => 0) 46)) := (Below.refl _ _).alloc (Nat.le_refl _) _
  clear he
  obtain ⟨e1, e2, rfl⟩ := kids_two hlen
  clear hlen
  obtain ⟨kb, ko, rfl, hkb, hke⟩ := hkv.at' (i := 0) (e := e1) rfl
  obtain ⟨kb', ko', hee, _, hkf⟩ := hkv.at' (i := 1) (e := e2) rfl
  cases hee
  have hn1 : nodesE e1 ≤ N := by have := nodesE_kid (l := [e1, e2]) (i := 0) (e := e1) rfl; omega
  have hn2 : nodesE e2 ≤ N := by have := nodesE_kid (l := [e1, e2]) (i := 1) (e := e2) rfl; omega
  have hg1 := hg.kid (i := 0) (k := e1) rfl
  have hg2 := hg.kid (i := 1) (k := e2) rfl
  have hE1 := Lib.hid (fun m : After (w.heap.size + 1) (w.alloc (.cells (maskA fun _ => 0) 46)) => show Calls Try.prog 66 #[.pointer (some ⟨db, 0, none⟩), .pointer (some ⟨kb, ko, none⟩)] m.w (fun r w' => r = .returned (.agg (maskA (setW (meanE wd day (envOf M) e1)))) ∧ Below m.w.heap.size m.w w') from by have hW := hbA.trans (m.below.mono (show w.heap.size ≤ w.heap.size + 1 by omega)); have := ih e1 m.w gs kb (ko + 0 * 5) db mb n c hn1 hg1 (hke.below hW hgs (Nat.le_refl _) (by omega)) hkb (by have := hW.size; omega) (hD.below hW (Nat.le_refl _)); exact this)
  have hE2 := Lib.hid (fun m : After (w.heap.size + 1) (w.alloc (.cells (maskA fun _ => 0) 46)) => show Calls Try.prog 66 #[.pointer (some ⟨db, 0, none⟩), .pointer (some ⟨kb, ko + 5, none⟩)] m.w (fun r w' => r = .returned (.agg (maskA (setW (meanE wd day (envOf M) e2)))) ∧ Below m.w.heap.size m.w w') from by have hW := hbA.trans (m.below.mono (show w.heap.size ≤ w.heap.size + 1 by omega)); have := ih e2 m.w gs kb (ko + 1 * 5) db mb n c hn2 hg2 (hkf.below hW hgs (Nat.le_refl _) (by omega)) hkb (by have := hW.size; omega) (hD.below hW (Nat.le_refl _)); exact this)
  have hG : meanE wd day (envOf M) (.mk 7 x y nm [e1, e2]) = sansS (meanE wd day (envOf M) e1) (meanE wd day (envOf M) e2) := by rw [hmean, meanL, meanL, meanL]; rfl
  replace hG := Lib.hid hG
  generalize meanE wd day (envOf M) e1 = p1 at *
  generalize meanE wd day (envOf M) e2 = p2 at *
  clear hmean hg hD hkv ih hke hkf hg1 hg2
  go_enter Try.func66, Try.ntmps66
  go_wp2_with fail
  refine wp_region_below_tail 15 (w.heap.size + 1) _ (Below.refl _ _) (by kernel_rfl) (by kernel_rfl) ?_
  simp only [List.take_succ_cons, List.take_zero, List.drop_succ_cons, List.drop_zero]
  iterate 15 (go_big_quiet_step (((first | (go_at_call 66; first | with_reducible exact quiet_below (by simp) (hE1.out _) | with_reducible exact quiet_below (by simp) (hE2.out _)) | (go_at_call 25; exact quiet_below (by simp) (SDiff p1 p2 _))))))
  refine wpQuiet_nil ?_
  rintro _ ⟨m1, rfl⟩
  change wpList _ _ _ _ _ _
  have B1 := B0.after m1 (by simp)
  have hb1 : Below w.heap.size w m1.w := hbA.trans (m1.below.mono (by omega))
  have k7 := blk_free B1
  have k8 := mask_put _ (sansS p1 p2) B1
  go_wp2
  refine bodyPost_ret (v := .agg (maskA (setW (sansS p1 p2)))) ?_ rfl ⟨by rw [hG.out], Below.setRow hb1 (Nat.le_refl _) _⟩
  simp [results, Try.results66, go_sem, k8]

set_option maxRecDepth 100000 in
set_option maxHeartbeats 4000000 in
theorem expr_8 (wd : Nat) (day : Int) (M : List UInt8 → Option (Nat → Bool)) (N : Nat) (ih : MeanAll wd day M N) (x y : Int) (nm : List UInt8) (kids : List Expr) (w : World) (gs b o db mb n c : Nat)
    (hN : nodesL kids ≤ N) (hg : GoodE (.mk 8 x y nm kids)) (he : ExprAt w gs b o (.mk 8 x y nm kids)) (hb : b < gs) (hgs : gs ≤ w.heap.size) (hD : DayAt w db day mb n c M) :
    Calls Try.prog 66 #[.pointer (some ⟨db, 0, none⟩), .pointer (some ⟨b, o, none⟩)] w (MeanPost wd day M (.mk 8 x y nm kids) w) := by
  obtain ⟨k0, k1, k2, k3, hnl, A, cap, k4, hkl, hkv⟩ := he.out
  have hof := own_facts hg.own
  simp only [Expr.kind, Expr.a, Expr.b, Expr.name, Expr.kids] at k0 k1 k2 k3 k4 hnl hkl hkv hof
  obtain ⟨-, -, hlen, -⟩ := hof
  have d1 := hD.d1
  have d2 := hD.d2
  have zd := hD.lt
  have zb : b < w.heap.size := by omega
  have hmean : meanE wd day (envOf M) (.mk 8 x y nm kids) = meanK wd day 8 x y (envOf M nm) (meanL wd day (envOf M) kids) := by rw [meanE]
  have B0 := Blk.new w 46 (maskA fun _ => 0)
  have hbA : Below w.heap.size w (w.alloc (.cells (maskA fun _ => 0) 46)) := (Below.refl _ _).alloc (Nat.le_refl _) _
  clear he
  obtain ⟨e1, e2, rfl⟩ := kids_two hlen
  clear hlen
  obtain ⟨kb, ko, rfl, hkb, hke⟩ := hkv.at' (i := 0) (e := e1) rfl
  obtain ⟨kb', ko', hee, _, hkf⟩ := hkv.at' (i := 1) (e := e2) rfl
  cases hee
  have hn1 : nodesE e1 ≤ N := by have := nodesE_kid (l := [e1, e2]) (i := 0) (e := e1) rfl; omega
  have hn2 : nodesE e2 ≤ N := by have := nodesE_kid (l := [e1, e2]) (i := 1) (e := e2) rfl; omega
  have hg1 := hg.kid (i := 0) (k := e1) rfl
  have hg2 := hg.kid (i := 1) (k := e2) rfl
  have hE1 := Lib.hid (fun m : After (w.heap.size + 1) (w.alloc (.cells (maskA fun _ => 0) 46)) => show Calls Try.prog 66 #[.pointer (some ⟨db, 0, none⟩), .pointer (some ⟨kb, ko, none⟩)] m.w (fun r w' => r = .returned (.agg (maskA (setW (meanE wd day (envOf M) e1)))) ∧ Below m.w.heap.size m.w w') from by have hW := hbA.trans (m.below.mono (show w.heap.size ≤ w.heap.size + 1 by omega)); have := ih e1 m.w gs kb (ko + 0 * 5) db mb n c hn1 hg1 (hke.below hW hgs (Nat.le_refl _) (by omega)) hkb (by have := hW.size; omega) (hD.below hW (Nat.le_refl _)); exact this)
  have hE2 := Lib.hid (fun m : After (w.heap.size + 1) (w.alloc (.cells (maskA fun _ => 0) 46)) => show Calls Try.prog 66 #[.pointer (some ⟨db, 0, none⟩), .pointer (some ⟨kb, ko + 5, none⟩)] m.w (fun r w' => r = .returned (.agg (maskA (setW (meanE wd day (envOf M) e2)))) ∧ Below m.w.heap.size m.w w') from by have hW := hbA.trans (m.below.mono (show w.heap.size ≤ w.heap.size + 1 by omega)); have := ih e2 m.w gs kb (ko + 1 * 5) db mb n c hn2 hg2 (hkf.below hW hgs (Nat.le_refl _) (by omega)) hkb (by have := hW.size; omega) (hD.below hW (Nat.le_refl _)); exact this)
  have hG : meanE wd day (envOf M) (.mk 8 x y nm [e1, e2]) = andS (meanE wd day (envOf M) e1) (meanE wd day (envOf M) e2) := by rw [hmean, meanL, meanL, meanL]; rfl
  replace hG := Lib.hid hG
  generalize meanE wd day (envOf M) e1 = p1 at *
  generalize meanE wd day (envOf M) e2 = p2 at *
  clear hmean hg hD hkv ih hke hkf hg1 hg2
  go_enter Try.func66, Try.ntmps66
  go_wp2_with fail
  refine wp_region_below_tail 15 (w.heap.size + 1) _ (Below.refl _ _) (by kernel_rfl) (by kernel_rfl) ?_
  simp only [List.take_succ_cons, List.take_zero, List.drop_succ_cons, List.drop_zero]
  iterate 15 (go_big_quiet_step (((first | (go_at_call 66; first | with_reducible exact quiet_below (by simp) (hE1.out _) | with_reducible exact quiet_below (by simp) (hE2.out _)) | (go_at_call 26; exact quiet_below (by simp) (SBoth p1 p2 _))))))
  refine wpQuiet_nil ?_
  rintro _ ⟨m1, rfl⟩
  change wpList _ _ _ _ _ _
  have B1 := B0.after m1 (by simp)
  have hb1 : Below w.heap.size w m1.w := hbA.trans (m1.below.mono (by omega))
  have k7 := blk_free B1
  have k8 := mask_put _ (andS p1 p2) B1
  go_wp2
  refine bodyPost_ret (v := .agg (maskA (setW (andS p1 p2)))) ?_ rfl ⟨by rw [hG.out], Below.setRow hb1 (Nat.le_refl _) _⟩
  simp [results, Try.results66, go_sem, k8]

set_option maxRecDepth 100000 in
set_option maxHeartbeats 4000000 in
theorem expr_9 (wd : Nat) (day : Int) (M : List UInt8 → Option (Nat → Bool)) (N : Nat) (ih : MeanAll wd day M N) (x y : Int) (nm : List UInt8) (kids : List Expr) (w : World) (gs b o db mb n c : Nat)
    (hN : nodesL kids ≤ N) (hg : GoodE (.mk 9 x y nm kids)) (he : ExprAt w gs b o (.mk 9 x y nm kids)) (hb : b < gs) (hgs : gs ≤ w.heap.size) (hD : DayAt w db day mb n c M) :
    Calls Try.prog 66 #[.pointer (some ⟨db, 0, none⟩), .pointer (some ⟨b, o, none⟩)] w (MeanPost wd day M (.mk 9 x y nm kids) w) := by
  obtain ⟨k0, k1, k2, k3, hnl, A, cap, k4, hkl, hkv⟩ := he.out
  have hof := own_facts hg.own
  simp only [Expr.kind, Expr.a, Expr.b, Expr.name, Expr.kids] at k0 k1 k2 k3 k4 hnl hkl hkv hof
  obtain ⟨-, -, hlen, -⟩ := hof
  have d1 := hD.d1
  have d2 := hD.d2
  have zd := hD.lt
  have zb : b < w.heap.size := by omega
  have hmean : meanE wd day (envOf M) (.mk 9 x y nm kids) = meanK wd day 9 x y (envOf M nm) (meanL wd day (envOf M) kids) := by rw [meanE]
  have B0 := Blk.new w 46 (maskA fun _ => 0)
  have hbA : Below w.heap.size w (w.alloc (.cells (maskA fun _ => 0) 46)) := (Below.refl _ _).alloc (Nat.le_refl _) _
  clear he
  obtain ⟨e1, rfl⟩ := kids_one hlen
  clear hlen
  obtain ⟨kb, ko, rfl, hkb, hke⟩ := hkv.at' (i := 0) (e := e1) rfl
  have hn1 : nodesE e1 ≤ N := by have := nodesE_kid (l := [e1]) (i := 0) (e := e1) rfl; omega
  have hg1 := hg.kid (i := 0) (k := e1) rfl
  have hE1 := Lib.hid (fun m : After (w.heap.size + 1) (w.alloc (.cells (maskA fun _ => 0) 46)) => show Calls Try.prog 66 #[.pointer (some ⟨db, 0, none⟩), .pointer (some ⟨kb, ko, none⟩)] m.w (fun r w' => r = .returned (.agg (maskA (setW (meanE wd day (envOf M) e1)))) ∧ Below m.w.heap.size m.w w') from by have hW := hbA.trans (m.below.mono (show w.heap.size ≤ w.heap.size + 1 by omega)); have := ih e1 m.w gs kb (ko + 0 * 5) db mb n c hn1 hg1 (hke.below hW hgs (Nat.le_refl _) (by omega)) hkb (by have := hW.size; omega) (hD.below hW (Nat.le_refl _)); exact this)
  have hG : meanE wd day (envOf M) (.mk 9 x y nm [e1]) = shS (has (setW (meanE wd day (envOf M) e1))) x := by rw [hmean, meanL, meanL]; rfl
  replace hG := Lib.hid hG
  generalize meanE wd day (envOf M) e1 = p1 at *
  clear hmean hg hD hkv ih hke hg1
  go_enter Try.func66, Try.ntmps66
  go_wp2_with fail
  refine wp_region_below_tail 12 (w.heap.size + 1) _ (Below.refl _ _) (by kernel_rfl) (by kernel_rfl) ?_
  simp only [List.take_succ_cons, List.take_zero, List.drop_succ_cons, List.drop_zero]
  iterate 12 (go_big_quiet_step (((first | (go_at_call 66; exact quiet_below (by simp) (hE1.out _)) | (go_at_call 92; exact quiet_below (by simp) (SShift p1 x _))))))
  refine wpQuiet_nil ?_
  rintro _ ⟨m1, rfl⟩
  change wpList _ _ _ _ _ _
  have B1 := B0.after m1 (by simp)
  have hb1 : Below w.heap.size w m1.w := hbA.trans (m1.below.mono (by omega))
  have k7 := blk_free B1
  have k8 := mask_put _ (shS (has (setW p1)) x) B1
  go_wp2
  refine bodyPost_ret (v := .agg (maskA (setW (shS (has (setW p1)) x)))) ?_ rfl ⟨by rw [hG.out], Below.setRow hb1 (Nat.le_refl _) _⟩
  simp [results, Try.results66, go_sem, k8]

set_option maxRecDepth 100000 in
set_option maxHeartbeats 4000000 in
theorem expr_10 (wd : Nat) (day : Int) (M : List UInt8 → Option (Nat → Bool)) (x y : Int) (nm : List UInt8) (kids : List Expr) (w : World) (gs b o db mb n c : Nat)
    (hg : GoodE (.mk 10 x y nm kids)) (he : ExprAt w gs b o (.mk 10 x y nm kids)) (hb : b < gs) (hgs : gs ≤ w.heap.size) (hD : DayAt w db day mb n c M) :
    Calls Try.prog 66 #[.pointer (some ⟨db, 0, none⟩), .pointer (some ⟨b, o, none⟩)] w (MeanPost wd day M (.mk 10 x y nm kids) w) := by
  obtain ⟨k0, k1, k2, k3, hnl, A, cap, k4, hkl, hkv⟩ := he.out
  have hof := own_facts hg.own
  simp only [Expr.kind, Expr.a, Expr.b, Expr.name, Expr.kids] at k0 k1 k2 k3 k4 hnl hkl hkv hof
  obtain ⟨-, -, hlen, -⟩ := hof
  have d1 := hD.d1
  have d2 := hD.d2
  have zd := hD.lt
  have zb : b < w.heap.size := by omega
  have hmean : meanE wd day (envOf M) (.mk 10 x y nm kids) = meanK wd day 10 x y (envOf M nm) (meanL wd day (envOf M) kids) := by rw [meanE]
  have B0 := Blk.new w 46 (maskA fun _ => 0)
  have hbA : Below w.heap.size w (w.alloc (.cells (maskA fun _ => 0) 46)) := (Below.refl _ _).alloc (Nat.le_refl _) _
  clear he
  have hG : meanE wd day (envOf M) (.mk 10 x y nm kids) = envOf M nm := by rw [hmean, meanK_ten]
  replace hG := Lib.hid hG
  have hlk := (fun m : After (w.heap.size + 1) (w.alloc (.cells (maskA fun _ => 0) 46)) => look_mask (((hD.map).alloc (.cells (maskA fun _ => 0) 46)).below m.below (by have := hD.mlt; omega)) (nm := nm) hnl.1)
  generalize envOf M nm = p1 at *
  clear hmean hg hD hkv
  go_enter Try.func66, Try.ntmps66
  go_wp2_with fail
  refine wp_region_below_tail 9 (w.heap.size + 1) _ (Below.refl _ _) (by kernel_rfl) (by kernel_rfl) ?_
  simp only [List.take_succ_cons, List.take_zero, List.drop_succ_cons, List.drop_zero]
  iterate 9 (go_big_quiet_step ((fail)))
  refine wpQuiet_nil ?_
  rintro _ ⟨m1, rfl⟩
  change wpList _ _ _ _ _ _
  have B1 := B0.after m1 (by simp)
  have hb1 : Below w.heap.size w m1.w := hbA.trans (m1.below.mono (by omega))
  have k7 := blk_free B1
  have k8 := mask_put _ p1 B1
  go_wp2
  refine bodyPost_ret (v := .agg (maskA (setW p1))) ?_ rfl ⟨by rw [hG.out], Below.setRow hb1 (Nat.le_refl _) _⟩
  simp [results, Try.results66, go_sem, k8]

theorem expr_all (wd : Nat) (day : Int) (hd0 : 0 ≤ day) (hd1 : day < 146097) (hwd : Civ.weekI day = (wd : Nat)) (M : List UInt8 → Option (Nat → Bool)) : ∀ N, MeanAll wd day M N := by
  intro N
  induction N with
  | zero => intro e w gs b o db mb n c hN; have := nodesE_pos e; omega
  | succ N ih =>
    intro e w gs b o db mb n c hN hg he hb hgs hD
    obtain ⟨k, x, y, nm, kids⟩ := e
    have hof := own_facts hg.own
    simp only [Expr.kind] at hof
    have hn : nodesL kids ≤ N := by rw [nodesE] at hN; omega
    obtain rfl | rfl | rfl | rfl | rfl | rfl | rfl | rfl | rfl | rfl : k = 1 ∨ k = 2 ∨ k = 3 ∨ k = 4 ∨ k = 5 ∨ k = 6 ∨ k = 7 ∨ k = 8 ∨ k = 9 ∨ k = 10 := by omega
    · exact expr_1 wd day M x y nm kids w gs b o db mb n c hg he hb hgs hD
    · exact expr_2 wd day M x y nm kids w gs b o db mb n c hg he hb hgs hD
    · exact expr_3 wd day M x y nm kids w gs b o db mb n c hg he hb hgs hD
    · exact expr_4 wd day hd0 hd1 hwd M N ih x y nm kids w gs b o db mb n c hn hg he hb hgs hD
    · exact expr_5 wd day M N ih x y nm kids w gs b o db mb n c hn hg he hb hgs hD
    · exact expr_6 wd day M N ih x y nm kids w gs b o db mb n c hn hg he hb hgs hD
    · exact expr_7 wd day M N ih x y nm kids w gs b o db mb n c hn hg he hb hgs hD
    · exact expr_8 wd day M N ih x y nm kids w gs b o db mb n c hn hg he hb hgs hD
    · exact expr_9 wd day M N ih x y nm kids w gs b o db mb n c hn hg he hb hgs hD
    · exact expr_10 wd day M x y nm kids w gs b o db mb n c hg he hb hgs hD

end Ru
end Go.Proofs.Ytfhedopfjgjffaa
