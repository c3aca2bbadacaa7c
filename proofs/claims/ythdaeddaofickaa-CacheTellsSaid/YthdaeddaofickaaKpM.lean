/- The cache of chapter 9, plainly: what is kept, in which order. No walk. What is kept, as it lies in memory: 26 cells an entry; loaded, stored, laid into a row whole. The walk of slices.IndexFunc at kept entries, with cache.Get's test. The walk of slices.Clone at kept entries. clear, at a slice whose elements have many cells. The walk of slices.Delete at kept entries. A cache of the call's own: its block, and the row that it keeps. The walk of cache.Get. The walk of cache.Get where the machine is asked. -/
import Derived.KernelRfl
import Derived.Test.YthdaeddaofickaaVmM
import Derived.Test.YthdaeddaofickaaRd
import Derived.Lib.SliceRun
import Derived.Test.YthdaeddaofickaaPut
import Derived.Deep.RegionLaw
import Derived.Test.YthdaeddaofickaaStep
import Derived.Deep.AppendLies
import Derived.Test.YthdaeddaofickaaVmX
import Derived.Deep.DeepCutAuto
namespace Go.Proofs.Ythdaeddaofickaa
namespace Kp

/-- what a rule meant on a day, as of a version; its mask by words -/
structure Kept where
  rule : Int
  day : Int
  ver : Int
  mask : Nat → Nat

/-- the first one of a rule's day -/
def place (k : List Kept) (rule day : Int) : Nat := k.findIdx fun x => decide (x.rule = rule) && decide (x.day = day)
def gone (k : List Kept) (rule day : Int) : List Kept := k.eraseIdx (place k rule day)
/-- is it kept, as of its version? -/
def hit (k : List Kept) (rule day ver : Int) : Bool := match k[place k rule day]? with | some x => decide (x.ver = ver) | none => false
def cut (k : List Kept) : List Kept := if 64 < k.length then k.drop (k.length - 64) else k
def hitMask (k : List Kept) (rule day : Int) : Nat → Nat := ((k[place k rule day]?).map Kept.mask).getD fun _ => 0
/-- what is kept then; m: what the machine says -/
def after (k : List Kept) (rule day ver : Int) (m : Nat → Nat) : List Kept :=
  if hit k rule day ver = true then gone k rule day ++ [⟨rule, day, ver, hitMask k rule day⟩] else cut (gone k rule day ++ [⟨rule, day, ver, m⟩])

def key (x : Kept) : Int × Int := (x.rule, x.day)
theorem place_le (k : List Kept) (rule day : Int) : place k rule day ≤ k.length := List.findIdx_le_length
theorem place_key {k : List Kept} {rule day : Int} {x : Kept} (h : k[place k rule day]? = some x) : x.rule = rule ∧ x.day = day := by
  obtain ⟨hi, e⟩ := List.getElem?_eq_some_iff.1 h
  have hi' : List.findIdx (fun x : Kept => decide (x.rule = rule) && decide (x.day = day)) k < k.length := hi
  have := List.findIdx_getElem (xs := k) (p := fun x : Kept => decide (x.rule = rule) && decide (x.day = day)) (w := hi')
  simp only [Bool.and_eq_true, decide_eq_true_eq] at this
  have e' : k[List.findIdx (fun x : Kept => decide (x.rule = rule) && decide (x.day = day)) k]'hi' = x := e
  rw [e'] at this
  exact this
theorem erase_map {α β : Type} (f : α → β) : ∀ (l : List α) (n : Nat), (l.eraseIdx n).map f = (l.map f).eraseIdx n
  | [], _ => by simp
  | x :: l, 0 => by simp
  | x :: l, n + 1 => by simp [erase_map f l n]
theorem gone_length {k : List Kept} {rule day : Int} : (gone k rule day).length = if place k rule day < k.length then k.length - 1 else k.length := by
  unfold gone
  rw [List.length_eraseIdx]
/-- each rule's day once, and no more than so many -/
def Once (k : List Kept) : Prop := (k.map key).Nodup ∧ k.length ≤ 64
theorem gone_key {k : List Kept} {rule day : Int} (h : (k.map key).Nodup) : ∀ x ∈ gone k rule day, key x ≠ (rule, day) := by
  intro x hx e
  unfold gone at hx
  obtain ⟨j, hj⟩ := List.getElem?_of_mem hx
  rw [List.getElem?_eraseIdx] at hj
  simp only [key, Prod.mk.injEq] at e
  split at hj
  · rename_i hlt
    have := List.not_of_lt_findIdx (xs := k) (p := fun x : Kept => decide (x.rule = rule) && decide (x.day = day)) hlt
    obtain ⟨hjl, hje⟩ := List.getElem?_eq_some_iff.1 hj
    rw [hje] at this
    simp [e] at this
  · rename_i hge
    have hp : place k rule day < k.length := by
      have := (List.getElem?_eq_some_iff.1 hj).1
      omega
    obtain ⟨y, hy⟩ : ∃ y, k[place k rule day]? = some y := ⟨_, List.getElem?_eq_getElem hp⟩
    have hk := place_key hy
    have h1 : (k.map key)[place k rule day]? = some (rule, day) := by rw [List.getElem?_map, hy]; simp [key, hk]
    have h2 : (k.map key)[j + 1]? = some (rule, day) := by rw [List.getElem?_map, hj]; simp [key, e]
    have := (List.getElem?_inj (by rw [List.length_map]; exact hp) h).1 (h1.trans h2.symm)
    omega
theorem once_after {k : List Kept} (h : Once k) (rule day ver : Int) (m : Nat → Nat) : Once (after k rule day ver m) := by
  have hg : ((gone k rule day).map key).Nodup := by
    unfold gone
    exact List.Nodup.sublist (List.Sublist.map key (List.eraseIdx_sublist k _)) h.1
  have hn : ∀ q : Nat → Nat, ((gone k rule day ++ [(⟨rule, day, ver, q⟩ : Kept)]).map key).Nodup := fun q => by
    rw [List.map_append, List.nodup_append]
    refine ⟨hg, by simp, fun a ha b hb => ?_⟩
    obtain ⟨x, hx, rfl⟩ := List.mem_map.1 ha
    simp [key] at hb
    rw [hb]
    exact gone_key h.1 x hx
  have hl : (gone k rule day).length ≤ 64 := by rw [gone_length]; have := h.2; split <;> omega
  unfold after
  split
  · rename_i hh
    refine ⟨hn (hitMask k rule day), ?_⟩
    rw [List.length_append, gone_length]
    unfold hit at hh
    split at hh
    · rename_i x hx
      have := (List.getElem?_eq_some_iff.1 hx).1
      rw [if_pos this]
      have := h.2
      simp
      omega
    · cases hh
  · unfold cut
    split
    · refine ⟨?_, ?_⟩
      · rw [List.map_drop]
        exact List.Nodup.sublist (List.drop_sublist _ _) (hn m)
      · rw [List.length_drop]; omega
    · exact ⟨hn m, by omega⟩
/-- the last one is what was asked for -/
theorem after_last (k : List Kept) (rule day ver : Int) (m : Nat → Nat) : ∃ l q, after k rule day ver m = l ++ [⟨rule, day, ver, q⟩] ∧ (q = m ∨ q = hitMask k rule day) := by
  unfold after
  split
  · exact ⟨_, _, rfl, .inr rfl⟩
  · unfold cut
    split
    · rename_i h
      refine ⟨(gone k rule day).drop ((gone k rule day ++ [(⟨rule, day, ver, m⟩ : Kept)]).length - 64), m, ?_, .inl rfl⟩
      rw [List.drop_append_of_le_length]
      simp only [List.length_append, List.length_singleton] at h ⊢
      omega
    · exact ⟨_, _, rfl, .inl rfl⟩
/-- what is kept is right: masks are the machine's -/
def Right (R : Int → Int → (Nat → Nat) → Prop) (k : List Kept) : Prop := ∀ x ∈ k, R x.rule x.day x.mask
theorem right_after {R : Int → Int → (Nat → Nat) → Prop} {k : List Kept} (h : Right R k) {rule day ver : Int} {m : Nat → Nat} (hm : R rule day m) : Right R (after k rule day ver m) := by
  have hg : ∀ x ∈ gone k rule day, R x.rule x.day x.mask := fun x hx => h x ((List.eraseIdx_sublist k _).subset hx)
  unfold after
  split
  · rename_i hh
    intro x hx
    rcases List.mem_append.1 hx with hx | hx
    · exact hg x hx
    · simp at hx
      subst hx
      unfold hit at hh
      split at hh
      · rename_i y hy
        have hk := place_key hy
        have := h y (List.mem_of_getElem? hy)
        rw [hk.1, hk.2] at this
        simpa [hitMask, hy] using this
      · cases hh
  · have hall : ∀ x ∈ gone k rule day ++ [(⟨rule, day, ver, m⟩ : Kept)], R x.rule x.day x.mask := fun x hx => by
      rcases List.mem_append.1 hx with hx | hx
      · exact hg x hx
      · simp at hx; subst hx; exact hm
    unfold cut
    split
    · exact fun x hx => hall x (List.mem_of_mem_drop hx)
    · exact hall

/-- what was asked for last, as the law keeps it -/
abbrev Ask := Int × Int × Int
def asks (k : List Kept) : List Ask := k.map fun x => (x.rule, x.day, x.ver)
def placeA (l : List Ask) (rule day : Int) : Nat := l.findIdx fun x => decide (x.1 = rule) && decide (x.2.1 = day)
def hadA (l : List Ask) (rule day ver : Int) : Bool := match l[placeA l rule day]? with | some x => decide (x.2.2 = ver) | none => false
def cutA (l : List Ask) : List Ask := if 64 < l.length then l.drop 1 else l
def afterA (l : List Ask) (rule day ver : Int) : List Ask := cutA (l.eraseIdx (placeA l rule day) ++ [(rule, day, ver)])
theorem place_asks (k : List Kept) (rule day : Int) : placeA (asks k) rule day = place k rule day := by
  unfold placeA asks place
  rw [List.findIdx_map]
  rfl
theorem had_asks (k : List Kept) (rule day ver : Int) : hadA (asks k) rule day ver = hit k rule day ver := by
  unfold hadA hit
  rw [place_asks]
  unfold asks
  rw [List.getElem?_map]
  cases k[place k rule day]? <;> rfl
theorem asks_after {k : List Kept} (h : Once k) (rule day ver : Int) (m : Nat → Nat) : asks (after k rule day ver m) = afterA (asks k) rule day ver := by
  have hl : (gone k rule day).length ≤ 64 := by rw [gone_length]; have := h.2; split <;> omega
  have he : ∀ q : Nat → Nat, asks (gone k rule day ++ [⟨rule, day, ver, q⟩]) = (asks k).eraseIdx (placeA (asks k) rule day) ++ [(rule, day, ver)] := fun q => by
    rw [place_asks]
    unfold asks gone
    rw [List.map_append, erase_map]
    rfl
  have hlen : ∀ q : Nat → Nat, ((asks k).eraseIdx (placeA (asks k) rule day) ++ [(rule, day, ver)]).length = (gone k rule day ++ [(⟨rule, day, ver, q⟩ : Kept)]).length := fun q => by
    rw [← he q]; simp [asks]
  unfold after afterA
  split
  · rename_i hh
    rw [he]
    unfold cutA
    rw [if_neg]
    rw [hlen (fun _ => 0), List.length_append, gone_length]
    unfold hit at hh
    split at hh
    · rename_i x hx
      have := (List.getElem?_eq_some_iff.1 hx).1
      rw [if_pos this]
      have := h.2
      simp
      omega
    · cases hh
  · unfold cut cutA
    rw [hlen m, ← he m]
    split
    · rename_i hc
      have : (gone k rule day ++ [(⟨rule, day, ver, m⟩ : Kept)]).length - 64 = 1 := by simp at hc ⊢; omega
      rw [this]
      simp [asks]
    · rfl

end Kp
end Go.Proofs.Ythdaeddaofickaa

namespace Go.Proofs.Ythdaeddaofickaa
open Go.RowKit
namespace Kp
open Msk Sl

def keptA (x : Kept) : Array Value := #[.int .i64 x.rule, .int .i64 x.day, .int .i64 x.ver] ++ maskA x.mask
theorem keptA_size (x : Kept) : (keptA x).size = 26 := by unfold keptA; rw [Array.size_append, maskA_size]; rfl
theorem keptA_mask (x : Kept) (i : Nat) : (keptA x)[3 + i]? = (maskA x.mask)[i]? := by
  unfold keptA
  rw [Array.getElem?_append_right (by simp)]
  simp
theorem keptA_0 (x : Kept) : (keptA x)[0]? = some (.int .i64 x.rule) := by unfold keptA; rw [Array.getElem?_append_left (by simp)]; rfl
theorem keptA_1 (x : Kept) : (keptA x)[1]? = some (.int .i64 x.day) := by unfold keptA; rw [Array.getElem?_append_left (by simp)]; rfl
theorem keptA_2 (x : Kept) : (keptA x)[2]? = some (.int .i64 x.ver) := by unfold keptA; rw [Array.getElem?_append_left (by simp)]; rfl
theorem keptA_one (x : Kept) : ∀ v ∈ (keptA x).toList, v.oneCell' = true := by
  intro v hv
  unfold keptA at hv
  rw [Array.toList_append] at hv
  rcases List.mem_append.1 hv with h | h
  · simp at h
    rcases h with rfl | rfl | rfl <;> rfl
  · exact one_cell x.mask v h
@[go_sem ↓] theorem fold_load26 (a : Addr) : loadCellsFrom a 0 26 #[] = loadRow 26 a := rfl
@[go_sem] theorem run_store26 {P : Program} (w : World) (g : Nat) (x : Kept) :
    (storeCells ⟨g, 0, none⟩ (keptA x).toList 0).run P w = if freeRow w g 26 = true then .ok () (w.setRow g (keptA x)) else (storeRaw ⟨g, 0, none⟩ (keptA x)).run P w :=
  run_storeRow w g 26 _ (keptA_size x) (keptA_one x)
/-- entries in a slice -/
def KeptV (w : World) (B : Nat) (v : Value) (l : List Kept) : Prop := Reads B v l fun b o i x => cellsAt w b (o + i * 26) 26 = some (keptA x) ∧ okW x.mask
theorem KeptV.below {w w' : World} {B B' B'' : Nat} {v : Value} {l : List Kept} (h : KeptV w B v l) (hb : Below B' w w') (hB : B ≤ B') (hB2 : B ≤ B'') : KeptV w' B'' v l :=
  Reads.mono h hB2 fun b o i x hlt _ ⟨h1, h2⟩ => ⟨(cellsAt_congr fun j _ => hb.cell (p := ⟨b, _, none⟩) (by simp; omega)).trans h1, h2⟩
theorem el_kept : El Try.prog 22 45 26 208 := El.mk' Try.underlying22 (by kernel_rfl) (by omega)

end Kp
end Go.Proofs.Ythdaeddaofickaa

namespace Go.Proofs.Ythdaeddaofickaa
open Go.RowKit
namespace Kp
open Msk Sl

set_option maxHeartbeats 1000000 in
theorem test_any (cs : Array Value) (r d rule day : Int) (h0 : cs[0]? = some (.int .i64 r)) (h1 : cs[1]? = some (.int .i64 d)) (pr pd : Nat) (w : World) (hr : w.cell? ⟨pr, 0, none⟩ = some (.int .i64 rule)) (hd : w.cell? ⟨pd, 0, none⟩ = some (.int .i64 day)) (hpr : pr < w.heap.size) (hpd : pd < w.heap.size) :
    Calls Try.prog 21 #[.agg cs, .pointer (some ⟨pr, 0, none⟩), .pointer (some ⟨pd, 0, none⟩)] w fun e w' => e = .returned (.bool (decide (r = rule) && decide (d = day))) ∧ Below w.heap.size w w' := by
  have k0 : (r == rule) = decide (r = rule) := by rw [Bool.eq_iff_iff]; simp
  have k1 : (d == day) = decide (d = day) := by rw [Bool.eq_iff_iff]; simp
  rw [← k0, ← k1]
  clear k0 k1
  cases hg : (r == rule) with
  | true =>
    go_enter Try.func21, Try.ntmps21
    go_wp2
    go_ret
    exact ⟨rfl, (by repeat (first | exact Below.refl _ _ | assumption | refine Below.n _ ?_ (by first | omega | (simp; done) | (simp; omega)) | refine Below.alloc ?_ (by first | omega | (simp; done) | (simp; omega)) _ | refine Below.setCell ?_ (by first | omega | (simp; done) | (simp; omega)) _ | refine Below.drew ?_ | refine Below.setRow ?_ (by first | omega | (simp; done) | (simp; omega)) _ | refine Below.drewN ?_ _))⟩
  | false =>
    go_enter Try.func21, Try.ntmps21
    go_wp2
    go_ret
    exact ⟨rfl, (by repeat (first | exact Below.refl _ _ | assumption | refine Below.n _ ?_ (by first | omega | (simp; done) | (simp; omega)) | refine Below.alloc ?_ (by first | omega | (simp; done) | (simp; omega)) _ | refine Below.setCell ?_ (by first | omega | (simp; done) | (simp; omega)) _ | refine Below.drew ?_ | refine Below.setRow ?_ (by first | omega | (simp; done) | (simp; omega)) _ | refine Below.drewN ?_ _))⟩

theorem place_at {k : List Kept} {rule day : Int} {i : Nat} {x : Kept} (h : k[i]? = some x) (hn : i ≤ place k rule day) : (decide (x.rule = rule) && decide (x.day = day)) = true ↔ place k rule day = i := by
  obtain ⟨hi, rfl⟩ := List.getElem?_eq_some_iff.1 h
  constructor
  · intro hx
    have : place k rule day ≤ i := by
      rcases Nat.lt_or_ge i (place k rule day) with hlt | hge
      · have := List.not_of_lt_findIdx (xs := k) (p := fun x : Kept => decide (x.rule = rule) && decide (x.day = day)) hlt
        rw [hx] at this
        simp at this
      · exact hge
    omega
  · rintro hx
    have := place_key (k := k) (rule := rule) (day := day) (x := k[i]) (by rw [hx]; exact List.getElem?_eq_getElem hi)
    simp [this]

/-- where a rule's day is kept, as the code tells it -/
def placeI (k : List Kept) (rule day : Int) : Int := if place k rule day < k.length then place k rule day else -1

set_option maxRecDepth 100000 in
set_option maxHeartbeats 2000000 in
theorem index_any (v : Value) (k : List Kept) (rule day : Int) (pr pd : Nat) (w : World) (hk : KeptV w w.heap.size v k) (hr : w.cell? ⟨pr, 0, none⟩ = some (.int .i64 rule)) (hd : w.cell? ⟨pd, 0, none⟩ = some (.int .i64 day)) (hpr : pr < w.heap.size) (hpd : pd < w.heap.size) :
    Calls Try.prog 20 #[v, .func (.func 21) #[] #[.pointer (some ⟨pr, 0, none⟩), .pointer (some ⟨pd, 0, none⟩)]] w fun e w' => e = .returned (.int .i64 (placeI k rule day)) ∧ Below w.heap.size w w' := by
  obtain ⟨A, cap, rfl, hlen, hc⟩ := hk
  replace hc := Lib.hid hc
  go_enter Try.func20, Try.ntmps20
  go_wp2
  go_loopg [8] k.length (fun n i wr => ∃ j : Nat, j ≤ k.length ∧ n = k.length - j ∧ i = .int .i64 j ∧ Below w.heap.size w wr ∧ j ≤ place k rule day)
  case atStart => exact ⟨0, by omega, rfl, rfl, Below.refl _ _, Nat.zero_le _⟩
  case round =>
    obtain ⟨j, hj, hn, rfl, hb, hpl⟩ := hrel
    replace hn := Lib.hid hn
    by_cases hlt : j < k.length
    · obtain ⟨x, hx⟩ : ∃ x, k[j]? = some x := ⟨_, List.getElem?_eq_getElem hlt⟩
      obtain ⟨b, o, rfl, hbl, c5, hok⟩ := hc.out j x hx
      have z := hb.size
      replace c5 : cellsAt wr b (o + j * 26) 26 = some (keptA x) := (cellsAt_congr fun i _ => hb.cell (p := ⟨b, _, none⟩) hbl).trans c5
      have hpa := place_at (rule := rule) (day := day) hx hpl
      have ht := Lib.hid (test_any (keptA x) x.rule x.day rule day (keptA_0 x) (keptA_1 x) pr pd wr ((hb.cell (p := ⟨pr, _, none⟩) hpr).trans hr) ((hb.cell (p := ⟨pd, _, none⟩) hpd).trans hd) (by omega) (by omega))
      generalize keptA x = cs at *
      clear hx
      cases ht2 : (decide (x.rule = rule) && decide (x.day = day)) with
      | true =>
        have hp := hpa.1 ht2
        rw [ht2] at ht
        have hres := Lib.hid (show placeI k rule day = (j : Int) by unfold placeI; rw [hp, if_pos hlt])
        clear ht2 hpa hp
        go_wp2_with (go_at_call 21; refine ht.out.mono ?_; rintro e w2 ⟨rfl, hb2⟩; obtain ⟨n2, rfl⟩ := After.of hb2)
        go_ret
        exact ⟨ret_int hres.out.symm, (by repeat (first | exact Below.refl _ _ | assumption | refine Below.n _ ?_ (by first | omega | (simp; done) | (simp; omega)) | refine Below.alloc ?_ (by first | omega | (simp; done) | (simp; omega)) _ | refine Below.setCell ?_ (by first | omega | (simp; done) | (simp; omega)) _ | refine Below.drew ?_ | refine Below.setRow ?_ (by first | omega | (simp; done) | (simp; omega)) _ | refine Below.drewN ?_ _))⟩
      | false =>
        have hp : j + 1 ≤ place k rule day := by
          rcases Nat.lt_or_ge j (place k rule day) with h | h
          · exact h
          · have := hpa.2 (by omega); rw [ht2] at this; cases this
        rw [ht2] at ht
        clear ht2 hpa
        go_wp2_with (go_at_call 21; refine ht.out.mono ?_; rintro e w2 ⟨rfl, hb2⟩; obtain ⟨n2, rfl⟩ := After.of hb2)
        go_roundg (k.length - (j + 1))
        case measure => rw [hn.out]; omega
        case rel => exact ⟨j + 1, by omega, rfl, by go_num, (by repeat (first | exact Below.refl _ _ | assumption | refine Below.n _ ?_ (by first | omega | (simp; done) | (simp; omega)) | refine Below.alloc ?_ (by first | omega | (simp; done) | (simp; omega)) _ | refine Below.setCell ?_ (by first | omega | (simp; done) | (simp; omega)) _ | refine Below.drew ?_ | refine Below.setRow ?_ (by first | omega | (simp; done) | (simp; omega)) _ | refine Below.drewN ?_ _)), hp⟩
    · have hp := place_le k rule day
      have hres := Lib.hid (show placeI k rule day = -1 by unfold placeI; rw [if_neg (by omega)])
      obtain rfl : j = k.length := by omega
      go_wp2
      go_ret
      exact ⟨ret_int hres.out.symm, (by repeat (first | exact Below.refl _ _ | assumption | refine Below.n _ ?_ (by first | omega | (simp; done) | (simp; omega)) | refine Below.alloc ?_ (by first | omega | (simp; done) | (simp; omega)) _ | refine Below.setCell ?_ (by first | omega | (simp; done) | (simp; omega)) _ | refine Below.drew ?_ | refine Below.setRow ?_ (by first | omega | (simp; done) | (simp; omega)) _ | refine Below.drewN ?_ _))⟩

end Kp
end Go.Proofs.Ythdaeddaofickaa

namespace Go.Proofs.Ythdaeddaofickaa
open Go.RowKit
namespace Kp
open Msk Sl

def keptL (x : Kept) : List Value := (keptA x).toList
theorem keptL_len (x : Kept) : (keptL x).length = 26 := by unfold keptL; rw [Array.length_toList, keptA_size]
theorem flat_len (k : List Kept) : (k.flatMap keptL).length = k.length * 26 := by
  induction k with
  | nil => rfl
  | cons x k ih => rw [List.flatMap_cons, List.length_append, ih, keptL_len, List.length_cons]; omega
theorem flat_at (k : List Kept) : ∀ (j : Nat) (u : Value), (k.flatMap keptL)[j]? = some u → ∃ x, k[j / 26]? = some x ∧ (keptA x)[j % 26]? = some u := by
  induction k with
  | nil => intro j u h; simp at h
  | cons x k ih =>
    intro j u h
    have hl := keptL_len x
    have hx : ∀ i, (keptL x)[i]? = (keptA x)[i]? := fun i => by unfold keptL; rw [Array.getElem?_toList]
    rw [List.flatMap_cons] at h
    generalize keptL x = cs at hl hx h
    by_cases hj : j < 26
    · have h2 : cs[j]? = some u := by
        rw [← h]
        exact (List.getElem?_append_left (by omega)).symm
      exact ⟨x, by rw [Nat.div_eq_of_lt hj]; rfl, by rw [Nat.mod_eq_of_lt hj, ← hx, h2]⟩
    · rw [List.getElem?_append_right (by omega), hl] at h
      obtain ⟨y, h1, h2⟩ := ih (j - 26) u h
      refine ⟨y, ?_, ?_⟩
      · rw [show j / 26 = (j - 26) / 26 + 1 by omega]; simpa using h1
      · rw [show j % 26 = (j - 26) % 26 by omega]; exact h2
theorem flat_one (k : List Kept) : ∀ u ∈ k.flatMap keptL, u.oneCell' = true := fun u hu => by
  obtain ⟨x, _, hx⟩ := List.mem_flatMap.1 hu
  exact keptA_one x u hx
theorem info_kept : (Try.prog.info? 45).map (fun i => (i.zero.map (·.cells.size), i.size, i.bytes)) = some (some 26, 26, 208) := by kernel_rfl

set_option maxRecDepth 100000 in
set_option maxHeartbeats 2000000 in
theorem Clone_any (v : Value) (k : List Kept) (w : World) (hk : KeptV w w.heap.size v k) (hlen : k.length * 208 ≤ 140737488355328) :
    Calls Try.prog 19 #[v] w fun e w' => ∃ v', e = .returned v' ∧ Below w.heap.size w w' ∧ w'.ownsRow w.heap.size 45 26 v' k.length (k.flatMap keptL) := by
  obtain ⟨A, cap, rfl, hl63, hc⟩ := hk
  cases A with
  | none =>
    have e0 : k = [] := by
      cases k with
      | nil => rfl
      | cons x k => obtain ⟨b, o, h, _⟩ := hc 0 x rfl; cases h
    subst e0
    have hnil := fun w => Lib.run_eql_slice_nil (P := Try.prog) w 22 45 none 0 cap 0 0 Try.underlying22
    clear hc
    go_enter Try.func19, Try.ntmps19
    go_wp2
    go_ret
    exact ⟨_, rfl, Below.refl _ _, World.ownsRow_nil _ _ _ _⟩
  | some ad =>
    have hnil := fun w => Lib.run_eql_slice_nil (P := Try.prog) w 22 45 (some ad) k.length cap 0 0 Try.underlying22
    obtain ⟨i0, z0, hi, hz0, hz1, hz2, hz3⟩ := el_kept.inf
    have hn1 := Lib.hid (show ∀ (j : Nat) (u : Value), (k.flatMap keptL)[j]? = some u → (w.alloc (.cells #[] 45)).cell? (ad.add j) = some u from fun j u hu => by
      obtain ⟨x, h1, h2⟩ := flat_at k j u hu
      obtain ⟨b, o, e, hb, c5, _⟩ := hc _ x h1
      cases e
      rw [Addr.add_lit, cell_alloc_ite, if_pos hb]
      have h3 := (cellsAt_some.1 c5).2 (j % 26) (Nat.mod_lt _ (by omega))
      rw [show o + j = o + j / 26 * 26 + j % 26 by omega, h3]
      exact h2)
    have hn2 := Lib.hid (flat_one k)
    have hn3 := Lib.hid (flat_len k)
    clear hc
    go_enter Try.func19, Try.ntmps19
    go_wp2_with (at_builtin; refine wpList_append_own _ rfl (.tmp 5) (.tmp 6) _ rfl w.heap.size 45 i0 z0 26 208 Try.underlying22 hi hz0 hz1 hz2 hz3 (by omega) (.slice (some ⟨w.heap.size, 0, none⟩) 0 0) 0 [] rfl (World.ownsRow_lit w #[] 0 (Nat.le_refl _) (by simp) (by simp)) ad k.length cap (k.flatMap keptL) rfl hn3.out hn1.out hn2.out (by simp only [maxLen]; omega) (by omega) (by simp) ?_; intro v1 w1 hown hg _)
    go_ret
    simp only [Nat.zero_add, List.nil_append] at hown
    exact ⟨v1, rfl, ((Below.refl _ _).alloc (Nat.le_refl _) _).grown hg (by simp) (by simp [Value.ownBlock]), hown⟩

end Kp
end Go.Proofs.Ythdaeddaofickaa

namespace Go.Proofs.Ythdaeddaofickaa
namespace Kp
variable {P : Program}

theorem run_clear_cells (w : World) (t e ty : TypeId) (z : Value) (ht : P.underlying t = some (.slice e)) (hv : ∀ w, (zeroValue e).run P w = .ok z w) (b o n c : Nat) (hn : 0 < n) (h1 : ∀ v ∈ (Builtin.zeroCells z.cells n).toList, v.oneCell' = true)
    (hc : ∀ j, j < (Builtin.zeroCells z.cells n).toList.length → (w.cell? ⟨b, o + j, none⟩).isSome = true) (hf : ∀ j, j < (Builtin.zeroCells z.cells n).toList.length → w.frozen? ⟨b, o + j, none⟩ = false) :
    (Builtin.clear_ #[t] ty #[.slice (some ⟨b, o, none⟩) n c]).run P w = .ok (.tuple #[]) (w.setCells b o (Builtin.zeroCells z.cells n).toList) := by
  have hst := run_storeCells_cells (P := P) b o (Builtin.zeroCells z.cells n).toList 0 w (by simpa using hc) (by simpa using hf) h1
  simp only [Nat.add_zero] at hst
  obtain ⟨m, rfl⟩ : ∃ m, n = m + 1 := ⟨n - 1, by omega⟩
  simp [Builtin.clear_, run_underlying ht, hv, hst]

theorem zeroCells_one (z : Array Value) (n : Nat) (h : ∀ v ∈ z.toList, v.oneCell' = true) (h0 : 0 < z.size) : ∀ v ∈ (Builtin.zeroCells z n).toList, v.oneCell' = true := by
  intro v hv
  simp [Builtin.zeroCells] at hv
  obtain ⟨i, hi, rfl⟩ := hv
  refine h _ ?_
  rw [getElem!_pos z (i % z.size) (Nat.mod_lt _ h0)]
  simp

end Kp
end Go.Proofs.Ythdaeddaofickaa

namespace Go.Proofs.Ythdaeddaofickaa
open Go.RowKit
namespace Kp
open Msk Sl

theorem setCells_put (g : Nat) : ∀ (vs : List Value) (o : Nat) (w : World), w.setCells g o vs = putList w g o vs
  | [], _, _ => rfl
  | v :: vs, o, w => by rw [World.setCells, putList, setCells_put g vs]
theorem flat_take (k : List Kept) (i : Nat) : (k.take i).flatMap keptL = (k.flatMap keptL).take (i * 26) := by
  induction k generalizing i with
  | nil => simp
  | cons x k ih =>
    cases i with
    | zero => simp
    | succ i =>
      have hl := keptL_len x
      rw [List.take_succ_cons, List.flatMap_cons, List.flatMap_cons, ih]
      generalize keptL x = cs at hl
      have e : cs.take ((i + 1) * 26) = cs := List.take_of_length_le (by omega)
      rw [List.take_append, hl, e, show (i + 1) * 26 - 26 = i * 26 by omega]
theorem flat_drop (k : List Kept) (j : Nat) (hj : j ≤ k.length) : (k.drop j).flatMap keptL = (k.flatMap keptL).drop (j * 26) := by
  have h1 : (k.take j ++ k.drop j).flatMap keptL = k.flatMap keptL := by rw [List.take_append_drop]
  rw [← h1, List.flatMap_append]
  have hl : ((k.take j).flatMap keptL).length = j * 26 := by rw [flat_len, List.length_take, Nat.min_eq_left hj]
  rw [← hl, List.drop_left]
/-- the cells of a block behind a removal -/
theorem moved_row {w : World} {base g cap : Nat} {cur : Array Value} {k : List Kept} {i j : Nat} (hb : base ≤ g) (hg : w.heap[g]? = some (.cells cur 45 (0, 0))) (hn : k.length ≤ cap) (hm : cap ≤ maxLen) (hs : cur.size = cap * 26) (ht : cur.toList.take (k.length * 26) = k.flatMap keptL) (hij : i < j) (hj : j ≤ k.length) (Z : List Value) :
    ((w.setCells g (i * 26) ((k.drop j).flatMap keptL)).setCells g ((i + (k.length - j)) * 26) Z).ownsRow base 45 26 (.slice (some ⟨g, 0, none⟩) (i + (k.length - j)) cap) (i + (k.length - j)) ((k.take i ++ k.drop j).flatMap keptL) := by
  have hB : Blk w g 45 cur := hg
  have h2 := (hB.putList (i * 26) ((k.drop j).flatMap keptL)).putList ((i + (k.length - j)) * 26) Z
  rw [setCells_put, setCells_put]
  have hl : ((k.take i ++ k.drop j).flatMap keptL).length = (i + (k.length - j)) * 26 := by rw [flat_len, List.length_append, List.length_take, List.length_drop, Nat.min_eq_left (by omega)]
  have hld : ((k.drop j).flatMap keptL).length = (k.length - j) * 26 := by rw [flat_len, List.length_drop]
  have hlt : ((k.take i).flatMap keptL).length = i * 26 := by rw [flat_len, List.length_take, Nat.min_eq_left (by omega)]
  refine ⟨hl, .inr ⟨g, cap, _, rfl, hb, h2, by omega, hm, by rw [spliceAt_size, spliceAt_size]; exact hs, ?_⟩⟩
  apply List.ext_getElem?
  intro x
  rw [List.getElem?_take]
  split
  · rename_i hx
    rw [Array.getElem?_toList, spliceAt_get, if_neg (by omega), spliceAt_get, List.flatMap_append]
    by_cases h : i * 26 ≤ x
    · rw [if_pos ⟨h, by omega, by omega⟩, List.getElem?_append_right (by omega), hlt]
    · rw [if_neg (by omega), List.getElem?_append_left (by omega), flat_take, ← ht, List.getElem?_take, if_pos (by omega), List.getElem?_take, if_pos (by omega), Array.getElem?_toList]
  · rw [List.getElem?_eq_none (by omega)]

theorem grown_putList {a : World} {g : Nat} : ∀ {w : World} (_ : a.grownBy w (some g)) (o : Nat) (vs : List Value), a.grownBy (putList w g o vs) (some g)
  | _, h, _, [] => h
  | w, h, o, v :: vs => grown_putList (w := w.setCell ⟨g, o, none⟩ v) ⟨h.os, h.tape, h.output, by have := h.size; simpa [World.setCell] using this, fun k hk hne => (Below.heap_setCell w ⟨g, o, none⟩ v k (by intro e; exact hne (by rw [e]))).trans (h.block k hk hne)⟩ (o + 1) vs
theorem grown_drew (w : World) (r : Option Nat) : w.grownBy w.drew r := ⟨rfl, rfl, rfl, Nat.le_refl _, fun _ _ _ => rfl⟩

theorem zero_kept : ∃ z : Value, (∀ w, (zeroValue 45).run Try.prog w = .ok z w) ∧ z.cells.size = 26 ∧ ∀ v ∈ z.cells.toList, v.oneCell' = true := by
  refine ⟨.agg #[.int .i64 0, .int .i64 0, .int .i64 0, .int .u64 0, .int .u64 0, .int .u64 0, .int .u64 0, .int .u64 0, .int .u64 0, .int .u64 0, .int .u64 0, .int .u64 0, .int .u64 0, .int .u64 0, .int .u64 0, .int .u64 0, .int .u64 0, .int .u64 0, .int .u64 0, .int .u64 0, .int .u64 0, .int .u64 0, .int .u64 0, .int .u64 0, .int .u64 0, .int .u64 0], fun w => by kernel_rfl, rfl, fun v hv => ?_⟩
  simp [Value.cells] at hv
  rcases hv with rfl | rfl <;> rfl

set_option maxRecDepth 100000 in
set_option maxHeartbeats 4000000 in
theorem Delete_any (base : Nat) (v : Value) (k : List Kept) (i j : Nat) (w : World) (h : w.ownsRow base 45 26 v k.length (k.flatMap keptL)) (hij : i < j) (hj : j ≤ k.length) :
    Calls Try.prog 22 #[v, .int .i64 i, .int .i64 j] w fun e w' => ∃ v', e = .returned v' ∧ w.grownBy w' v.ownBlock ∧ v'.ownBlock = v.ownBlock ∧ w'.ownsRow base 45 26 v' (k.take i ++ k.drop j).length ((k.take i ++ k.drop j).flatMap keptL) := by
  rcases h.2 with ⟨_, h0⟩ | ⟨g, cap, cur, rfl, hb, hg, hn, hm, hs, ht⟩
  · omega
  have hi1 : (0 : Int) ≤ (i : Int) := by omega
  have hj1 : (0 : Int) ≤ (j : Int) := by omega
  have hji : (i : Int) ≤ (j : Int) := by omega
  have hjn : (j : Int) ≤ (k.length : Int) := by omega
  have hne : ((i : Int) == (j : Int)) = false := by rw [beq_eq_false_iff_ne]; omega
  obtain ⟨i0, z0, hi0, hz0, hz1, hz2, hz3⟩ := el_kept.inf
  have hsl := el_kept.sl
  have s1 := Lib.hid (show ((k.drop j).flatMap keptL).length = (k.length - j) * 26 by rw [flat_len, List.length_drop])
  have s2 := Lib.hid (flat_one (k.drop j))
  obtain ⟨ad, hA, s0⟩ : ∃ ad : Addr, (if cap = j then some (⟨g, 0, none⟩ : Addr) else some ⟨g, j * 26, none⟩) = some ad ∧ Hid (∀ x u, ((k.drop j).flatMap keptL)[x]? = some u → w.drew.cell? (ad.add x) = some u) := by
    by_cases hcj : cap = j
    · refine ⟨_, if_pos hcj, Lib.hid fun x u hu => ?_⟩
      have hx := (List.getElem?_eq_some_iff.1 hu).1
      rw [s1.out] at hx
      omega
    · refine ⟨_, if_neg hcj, Lib.hid fun x u hu => ?_⟩
      rw [flat_drop k j hj, List.getElem?_drop, ← ht, List.getElem?_take] at hu
      split at hu
      · rw [Addr.add_lit]
        show w.cell? _ = _
        unfold World.cell?
        rw [hg]
        simpa using hu
      · cases hu
  have s3 := Lib.hid (show ∀ x, x < ((k.drop j).flatMap keptL).length → (w.drew.cell? ⟨g, 0 + i * 26 + x, none⟩).isSome = true ∧ w.drew.frozen? ⟨g, 0 + i * 26 + x, none⟩ = false from fun x hx => by
    rw [s1.out] at hx
    have hlt : 0 + i * 26 + x < cur.size := by omega
    constructor
    · show (w.cell? _).isSome = true
      unfold World.cell?
      rw [hg]
      simp
      omega
    · show w.frozen? _ = false
      simp [World.frozen?, hg])
  have hroom : i + (k.length - j) ≤ cap := by omega
  have hic : (i : Int) ≤ (cap : Int) := by omega
  have hic2 : i ≤ cap := by omega
  have hjc : (j : Int) ≤ (cap : Int) := by omega
  have hjk : j ≤ k.length := hj
  replace hs := Lib.hid hs
  replace ht := Lib.hid ht
  replace hm := Lib.hid hm
  clear h
  go_enter Try.func22, Try.ntmps22
  go_wp2
  go_region_law ((refine step_append_room (by rfl) _ _ _ (by rfl) 45 i0 26 hsl hi0 hz1 g 0 i cap (by rfl) ad (k.length - j) (cap - j) ((k.drop j).flatMap keptL) (by rfl) s1.out s0.out s2.out hroom s3.out ?_))
  obtain ⟨z, hz, hzs, hz1'⟩ := zero_kept
  have hZl : (Builtin.zeroCells z.cells (k.length - (i + (k.length - j)))).toList.length = (k.length - (i + (k.length - j))) * 26 := by rw [Array.length_toList, size_zeroCells, hzs]
  have hB1 : Blk (w.drew.setCells g (0 + i * 26) ((k.drop j).flatMap keptL)) g 45 (spliceAt cur (0 + i * 26) ((k.drop j).flatMap keptL)) := by
    rw [setCells_put]
    exact Blk.putList (show Blk w.drew g 45 cur from hg) _ _
  have hsz1 : (spliceAt cur (0 + i * 26) ((k.drop j).flatMap keptL)).size = cap * 26 := by rw [spliceAt_size]; exact hs.out
  have hcl : ∀ ty, (Builtin.clear_ #[22] ty #[.slice (some ⟨g, (i + (k.length - j)) * 26, none⟩) (k.length - (i + (k.length - j))) (cap - (i + (k.length - j)))]).run Try.prog (w.drew.setCells g (0 + i * 26) ((k.drop j).flatMap keptL)) = .ok (.tuple #[]) ((w.drew.setCells g (0 + i * 26) ((k.drop j).flatMap keptL)).setCells g ((i + (k.length - j)) * 26) (Builtin.zeroCells z.cells (k.length - (i + (k.length - j)))).toList) := fun ty =>
    run_clear_cells _ 22 45 ty z hsl hz g _ _ _ (by omega) (zeroCells_one _ _ hz1' (by omega)) (fun x hx => by
      rw [hB1.cell, Array.getElem?_eq_getElem (by rw [hsz1]; rw [hZl] at hx; omega)]; rfl) (fun x hx => hB1.frozen _)
  have hmv := Lib.hid (moved_row (w := w.drew) (base := base) (g := g) (cap := cap) (cur := cur) (k := k) (i := i) (j := j) hb hg hn hm.out hs.out ht.out hij hj (Builtin.zeroCells z.cells (k.length - (i + (k.length - j)))).toList)
  have hlen : (k.take i ++ k.drop j).length = i + (k.length - j) := by rw [List.length_append, List.length_take, List.length_drop, Nat.min_eq_left (by omega)]
  have hbelow := Lib.hid (show w.grownBy ((w.drew.setCells g (0 + i * 26) ((k.drop j).flatMap keptL)).setCells g ((i + (k.length - j)) * 26) (Builtin.zeroCells z.cells (k.length - (i + (k.length - j)))).toList) (some g) from by
    rw [setCells_put, setCells_put]
    exact grown_putList (grown_putList (grown_drew w (some g)) _ _) _ _)
  have q1 : ((i + (k.length - j) : Nat) : Int) ≤ (k.length : Int) := by omega
  have q2 : (k.length : Int) ≤ (cap : Int) := by omega
  have q3 : ¬ cap = i + (k.length - j) := by omega
  simp only [Nat.zero_add] at hcl hbelow hB1
  have hmv3 := Lib.hid hmv.out
  clear hmv hZl
  generalize (Builtin.zeroCells z.cells (k.length - (i + (k.length - j)))).toList = Z at *
  generalize (w.drew.setCells g (i * 26) ((k.drop j).flatMap keptL)) = W1 at *
  go_wp2
  go_ret
  refine ⟨_, rfl, hbelow.out, rfl, ?_⟩
  rw [hlen]
  exact hmv3.out

end Kp
end Go.Proofs.Ythdaeddaofickaa

namespace Go.Proofs.Ythdaeddaofickaa
open Go.RowKit
namespace Kp
open Msk Sl

/-- a store into another block than the row's -/
theorem own_off {base e size n : Nat} {v : Value} {xs : List Value} {w : World} (h : w.ownsRow base e size v n xs) {p : Addr} (hp : v.ownBlock ≠ some p.block) (u : Value) : (w.setCell p u).ownsRow base e size v n xs := by
  refine ⟨h.1, ?_⟩
  rcases h.2 with h0 | ⟨g, cap, cur, h1, h2, h3, h4⟩
  · exact .inl h0
  · refine .inr ⟨g, cap, cur, h1, h2, ?_, h4⟩
    rw [Below.heap_setCell w p u g (by intro e; apply hp; rw [h1, ← e]; rfl)]
    exact h3
theorem own_mono {b b' e size n : Nat} {v : Value} {xs : List Value} {w : World} (h : w.ownsRow b e size v n xs) (hb : b' ≤ b) : w.ownsRow b' e size v n xs := by
  refine ⟨h.1, ?_⟩
  rcases h.2 with h0 | ⟨g, cap, cur, h1, h2, h3⟩
  · exact .inl h0
  · exact .inr ⟨g, cap, cur, h1, Nat.le_trans hb h2, h3⟩
theorem blk_off {w w' : World} {r : Option Nat} {g : Nat} {t : TypeId} {cs : Array Value} (h : Blk w g t cs) (hg : w.grownBy w' r) (hr : r ≠ some g) : Blk w' g t cs :=
  (hg.block g h.lt (Ne.symm hr)).trans h

/-- the cache at block g: what it keeps lies in a row behind block N -/
def Cach (w : World) (N g : Nat) (k : List Kept) (runs : Int) : Prop :=
  ∃ v, Blk w g 24 #[v, .int .i64 runs] ∧ w.ownsRow N 45 26 v k.length (k.flatMap keptL) ∧ v.ownBlock ≠ some g
theorem Cach.lt {w : World} {N g : Nat} {k : List Kept} {runs : Int} (h : Cach w N g k runs) : g < w.heap.size := by
  obtain ⟨v, h, _⟩ := h
  exact h.lt
theorem Cach.below {w w' : World} {N g B : Nat} {k : List Kept} {runs : Int} (h : Cach w N g k runs) (hb : Below B w w') (hB : w.heap.size ≤ B) : Cach w' N g k runs := by
  have hlt := h.lt
  obtain ⟨v, h1, h2, h3⟩ := h
  exact ⟨v, h1.below hb (by omega), own_keep h2 hb hB, h3⟩
theorem Cach.alloc {w : World} {N g : Nat} {k : List Kept} {runs : Int} (h : Cach w N g k runs) (o : Obj) : Cach (w.alloc o) N g k runs := h.below ((Below.refl _ _).alloc (Nat.le_refl _) o) (Nat.le_refl _)
theorem Cach.set {w : World} {N g : Nat} {k : List Kept} {runs : Int} (h : Cach w N g k runs) {p : Addr} (hp : p.block < N) (hg : g ≠ p.block) (u : Value) : Cach (w.setCell p u) N g k runs := by
  obtain ⟨v, h1, h2, h3⟩ := h
  exact ⟨v, h1.far hg u, own_off h2 (fun e => by have := h2.lt _ e; omega) u, h3⟩
/-- a new row in the place of the old one -/
theorem Cach.put {w w' : World} {N g : Nat} {k' : List Kept} {runs : Int} {v v' : Value} (h : Blk w g 24 #[v, .int .i64 runs]) (hv : v.ownBlock ≠ some g) (hg : w.grownBy w' v.ownBlock) (h' : w'.ownsRow N 45 26 v' k'.length (k'.flatMap keptL)) (hv' : v'.ownBlock ≠ some g) :
    Cach (w'.setCell ⟨g, 0, none⟩ v') N g k' runs := by
  refine ⟨v', ?_, own_off h' hv' v', hv'⟩
  have := (blk_off h hg hv).set 0 v'
  exact this
theorem Cach.runs {w : World} {N g : Nat} {k : List Kept} {runs : Int} (h : Cach w N g k runs) (r : Int) : Cach (w.setCell ⟨g, 1, none⟩ (.int .i64 r)) N g k r := by
  obtain ⟨v, h1, h2, h3⟩ := h
  exact ⟨v, h1.set 1 (.int .i64 r), own_off h2 h3 _, h3⟩
theorem own_kept {w : World} {N : Nat} {k : List Kept} {v : Value} (h : w.ownsRow N 45 26 v k.length (k.flatMap keptL)) (hok : ∀ x ∈ k, okW x.mask) (hb : k.length ≤ 9223372036854775807) : KeptV w w.heap.size v k := by
  obtain ⟨A, cap, rfl⟩ := own_slice h
  refine ⟨A, cap, rfl, by omega, fun i x hx => ?_⟩
  obtain ⟨g, cap', e, h1, h2, h3⟩ := own_at h keptL_len hx
  cases e
  refine ⟨g, 0, rfl, h2, ?_, hok x (List.mem_of_getElem? hx)⟩
  refine cellsAt_some.2 ⟨keptA_size x, fun j hj => ?_⟩
  rw [Nat.zero_add]
  obtain ⟨u, hu⟩ : ∃ u, (keptA x)[j]? = some u := ⟨_, Array.getElem?_eq_getElem (by rw [keptA_size]; exact hj)⟩
  rw [hu]
  exact h3 j u (by unfold keptL; rw [Array.getElem?_toList]; exact hu)
theorem lay_any (cs z : Array Value) (n : Nat) (hs : cs.size = n) (hz : z.size = n) : Array.foldl (fun (cs : Array Value) (x : Value × Nat) => cs.setIfInBounds x.snd x.fst) z cs.zipIdx 0 n = cs := by
  have e : Array.foldl (fun (cs : Array Value) (x : Value × Nat) => cs.setIfInBounds x.snd x.fst) z cs.zipIdx 0 n = (cs.toList.zipIdx 0).foldl (fun (cs : Array Value) (x : Value × Nat) => cs.setIfInBounds x.snd x.fst) z := by
    have := Array.foldl_toList (f := fun (cs : Array Value) (x : Value × Nat) => cs.setIfInBounds x.snd x.fst) (init := z) (xs := cs.zipIdx)
    rw [Array.toList_zipIdx, Array.size_zipIdx, hs] at this
    exact this.symm
  rw [e]
  apply Array.ext_getElem?
  intro j
  rw [Vm.lay_list]
  by_cases h : j < n
  · rw [if_pos ⟨by omega, by simp [hs]; omega, by omega⟩]; simp
  · rw [if_neg (by simp [hs]; omega), Array.getElem?_eq_none (by omega), Array.getElem?_eq_none (by omega)]
/-- an entry that lies in a block of its own is appended, in a region that draws its order -/
theorem step_keep {W : World} {ops : Array Oper} {o : Oper} {a : Act} {K : Act → World → Prop} {Q : Exit → Act → World → Prop} {E : Prop} {base g : Nat} {v : Value} {k : List Kept} {x : Kept} {cs : Array Value} (hc : cs = keptA x) (hown : W.ownsRow base 45 26 v k.length (k.flatMap keptL)) (hB : Blk W g 45 cs)
    (hS : (k.length + 1) * 208 ≤ 140737488355328) (hbase : base ≤ W.heap.size) (hgd : o.guard = none) (so xo : Operand) (ho : o.op = .call { callee := .builtin .append, args := #[so, xo], argTypes := #[22, 22] })
    (hs : a.eval so = v) (hx : a.eval xo = .slice (some ⟨g, 0, none⟩) 1 1)
    (h : ∀ n c w', w'.ownsRow base 45 26 (.slice (some ⟨n, 0, none⟩) (k.length + 1) c) (k ++ [x]).length ((k ++ [x]).flatMap keptL) → W.grownBy w' v.ownBlock → (v.ownBlock = some n ∨ n = W.heap.size) → K (a.put o.dst (.slice (some ⟨n, 0, none⟩) (k.length + 1) c)) w') :
    if Region.wanted o (yielded ops a.tmps) = true then Oper.wp Try.prog o a W K Q else E := by
  have hl : keptL x = cs.toList := by rw [hc]; rfl
  have hone : ∀ u ∈ cs.toList, u.oneCell' = true := by rw [hc]; exact keptA_one x
  have hln : cs.toList.length = 1 * 26 := by rw [← hl, keptL_len]
  obtain ⟨i, z, hi, hz, hsi, hby, hzs⟩ := el_kept.inf
  refine step_append_lies _ hgd so xo 22 ho base 45 i z 26 208 el_kept.sl hi hz hsi hby hzs (by decide) v k.length _ hs hown ⟨g, 0, none⟩ 1 1 cs.toList hx hln (fun j u hu => ?_) hone (by decide) (by simp only [maxLen]; omega) (by omega) hbase W.heap.size rfl ?_
  · have := hB.cell j
    rw [Addr.add_lit, Nat.zero_add, this]
    simpa using hu
  · intro n c w' h2 h3 h4 _
    refine h n c w' ?_ h3 h4
    have e : (k ++ [x]).flatMap keptL = k.flatMap keptL ++ cs.toList := by rw [List.flatMap_append, ← hl]; simp
    rw [e, List.length_append, List.length_singleton]
    exact h2

theorem wpList_keep {W : World} {ops : Array Oper} {rest : List Oper} {o : Oper} {a : Act} {Q : Exit → Act → World → Prop} {base g : Nat} {v : Value} {k : List Kept} {x : Kept} {cs : Array Value} (hc : cs = keptA x) (hown : W.ownsRow base 45 26 v k.length (k.flatMap keptL)) (hB : Blk W g 45 cs)
    (hS : (k.length + 1) * 208 ≤ 140737488355328) (hbase : base ≤ W.heap.size) (hgd : o.guard = none) (so xo : Operand) (ho : o.op = .call { callee := .builtin .append, args := #[so, xo], argTypes := #[22, 22] })
    (hs : a.eval so = v) (hx : a.eval xo = .slice (some ⟨g, 0, none⟩) 1 1)
    (h : ∀ n c w', w'.ownsRow base 45 26 (.slice (some ⟨n, 0, none⟩) (k.length + 1) c) (k ++ [x]).length ((k ++ [x]).flatMap keptL) → W.grownBy w' v.ownBlock → (v.ownBlock = some n ∨ n = W.heap.size) → wpList Try.prog ops Q rest (a.put o.dst (.slice (some ⟨n, 0, none⟩) (k.length + 1) c)) w') :
    wpList Try.prog ops Q (o :: rest) a W :=
  wpList_plain hgd fun K hK => by
    have := step_keep (ops := ops) (K := K) (Q := Q) (E := True) hc hown hB hS hbase hgd so xo ho hs hx (fun n c w' h1 h2 h3 => hK _ _ (h n c w' h1 h2 h3))
    have hw : Region.wanted o (yielded ops a.tmps) = true := by simp [Region.wanted, hgd]
    rwa [if_pos hw] at this
/-- an entry built field by field -/
theorem lay_entry (rule day ver : Int) (m : Nat → Nat) : Array.foldl (fun (cs : Array Value) (x : Value × Nat) => cs.setIfInBounds (3 + x.snd) x.fst) #[.int .i64 rule, .int .i64 day, .int .i64 ver, .int .u64 0, .int .u64 0, .int .u64 0, .int .u64 0, .int .u64 0, .int .u64 0, .int .u64 0, .int .u64 0, .int .u64 0, .int .u64 0, .int .u64 0, .int .u64 0, .int .u64 0, .int .u64 0, .int .u64 0, .int .u64 0, .int .u64 0, .int .u64 0, .int .u64 0, .int .u64 0, .int .u64 0, .int .u64 0, .int .u64 0] (maskA m).zipIdx 0 23 = keptA ⟨rule, day, ver, m⟩ := by
  have key : ∀ (xs : List Value) (s : Nat) (cs : Array Value) (j : Nat), ((xs.zipIdx s).foldl (fun (cs : Array Value) (x : Value × Nat) => cs.setIfInBounds (3 + x.snd) x.fst) cs)[j]? = if 3 + s ≤ j ∧ j < 3 + s + xs.length ∧ j < cs.size then xs[j - (3 + s)]? else cs[j]? := by
    intro xs
    induction xs with
    | nil => intro s cs j; rw [if_neg (by simp; omega)]; rfl
    | cons x xs ih =>
      intro s cs j
      rw [List.zipIdx_cons, List.foldl_cons, ih]
      simp only [Array.size_setIfInBounds, Array.getElem?_setIfInBounds, List.length_cons]
      by_cases h1 : 3 + s = j
      · subst h1
        rw [if_neg (by omega), if_pos rfl]
        by_cases h2 : 3 + s < cs.size
        · rw [if_pos h2, if_pos ⟨by omega, by omega, h2⟩]; simp
        · rw [if_neg h2, if_neg (by omega), Array.getElem?_eq_none (by omega)]
      · rw [if_neg h1]
        by_cases h2 : 3 + (s + 1) ≤ j ∧ j < 3 + (s + 1) + xs.length ∧ j < cs.size
        · rw [if_pos h2, if_pos ⟨by omega, by omega, h2.2.2⟩, show j - (3 + s) = (j - (3 + (s + 1))) + 1 by omega]; simp
        · rw [if_neg h2, if_neg (by omega)]
  have hs := maskA_size m
  have e : ∀ z : Array Value, Array.foldl (fun (cs : Array Value) (x : Value × Nat) => cs.setIfInBounds (3 + x.snd) x.fst) z (maskA m).zipIdx 0 23 = ((maskA m).toList.zipIdx 0).foldl (fun (cs : Array Value) (x : Value × Nat) => cs.setIfInBounds (3 + x.snd) x.fst) z := fun z => by
    have := Array.foldl_toList (f := fun (cs : Array Value) (x : Value × Nat) => cs.setIfInBounds (3 + x.snd) x.fst) (init := z) (xs := (maskA m).zipIdx)
    rw [Array.toList_zipIdx, Array.size_zipIdx, hs] at this
    exact this.symm
  rw [e]
  apply Array.ext_getElem?
  intro j
  rw [key]
  have hk := keptA_size ⟨rule, day, ver, m⟩
  have h0 := keptA_0 ⟨rule, day, ver, m⟩
  have h1 := keptA_1 ⟨rule, day, ver, m⟩
  have h2 := keptA_2 ⟨rule, day, ver, m⟩
  have h3 := keptA_mask ⟨rule, day, ver, m⟩
  simp only at h0 h1 h2 h3
  generalize keptA ⟨rule, day, ver, m⟩ = cs at *
  generalize maskA m = ms at *
  by_cases h : 3 ≤ j
  · obtain ⟨i, rfl⟩ : ∃ i, j = 3 + i := ⟨j - 3, by omega⟩
    rw [h3]
    by_cases hi : i < 23
    · rw [if_pos ⟨by omega, by simp [hs]; omega, by simp; omega⟩, show 3 + i - (3 + 0) = i by omega]; simp
    · rw [if_neg (by simp [hs]; omega), Array.getElem?_eq_none (by simp; omega), Array.getElem?_eq_none (by omega)]
  · rw [if_neg (by omega)]
    match j, h with
    | 0, _ => rw [h0]; rfl
    | 1, _ => rw [h1]; rfl
    | 2, _ => rw [h2]; rfl
    | j + 3, h => exact absurd (by omega) h

theorem gone_len {k : List Kept} {P : Nat} (h : P < k.length) : (k.take P ++ k.drop (P + 1)).length + 1 = k.length := by
  rw [List.length_append, List.length_take, List.length_drop]
  omega
theorem gone_fits {k : List Kept} {P : Nat} (h : P < k.length) (hl : (k.length + 1) * 208 ≤ 140737488355328) : ((k.take P ++ k.drop (P + 1)).length + 1) * 208 ≤ 140737488355328 := by
  rw [gone_len h]
  omega
theorem snoc_len (k : List Kept) (x : Kept) : k.length + 1 = (k ++ [x]).length := by simp
/-- the cache behind an append to what it keeps, before the new row is stored -/
theorem keep_end {W6 w4 w5 : World} {N g g5 gg c n : Nat} {v0 v4 : Value} {runs : Int} {cs : Array Value} {k k' : List Kept} {t : TypeId} (b1 : Blk w4 g 24 #[v0, .int .i64 runs]) (b2 : Blk w4 g5 t cs) (b4 : Below N W6 w4) (ho4 : w4.ownsRow N 45 26 v4 k.length (k.flatMap keptL)) (n4 : N ≤ w4.heap.size)
    (hne4 : v4.ownBlock ≠ some g) (hne5 : v4.ownBlock ≠ some g5) (hN : N ≤ g) (h5 : g5 ≠ g) (_hn : n = k'.length) (ho5 : w5.ownsRow N 45 26 (.slice (some ⟨gg, 0, none⟩) n c) k'.length (k'.flatMap keptL)) (hg5 : w4.grownBy w5 v4.ownBlock) (hgg : v4.ownBlock = some gg ∨ gg = w4.heap.size) :
    w5.cell? ⟨g, 0, none⟩ = some v0 ∧ w5.frozen? ⟨g, 0, none⟩ = false ∧ Hid (Below N W6 (w5.setCell ⟨g, 0, none⟩ (.slice (some ⟨gg, 0, none⟩) n c)) ∧ Blk (w5.setCell ⟨g, 0, none⟩ (.slice (some ⟨gg, 0, none⟩) n c)) g5 t cs ∧ Cach (w5.setCell ⟨g, 0, none⟩ (.slice (some ⟨gg, 0, none⟩) n c)) N g k' runs) := by
  have c1 := blk_off b1 hg5 hne4
  have hl := b1.lt
  have hgn : (Value.slice (some ⟨gg, 0, none⟩) n c).ownBlock ≠ some g := fun e => by
    simp [Value.ownBlock] at e
    subst e
    rcases hgg with h | h
    · exact hne4 h
    · omega
  refine ⟨c1.cell 0, c1.frozen 0, Lib.hid ⟨(b4.trans (own_below n4 ho4 hg5)).setCell (p := ⟨g, 0, none⟩) hN _, (blk_off b2 hg5 hne5).far (p := ⟨g, 0, none⟩) h5 _, ⟨_, c1.set 0 _, own_off ho5 hgn _, hgn⟩⟩⟩

/-- the cache at block g, the machine's answer at block gm; the row is neither -/
def Kc (W6 : World) (N g gm : Nat) (k : List Kept) (runs : Int) (m : Nat → Nat) (w : World) : Prop :=
  ∃ v, Blk w g 24 #[v, .int .i64 runs] ∧ w.ownsRow N 45 26 v k.length (k.flatMap keptL) ∧ v.ownBlock ≠ some g ∧ v.ownBlock ≠ some gm ∧ Blk w gm 28 (maskA m) ∧ Below N W6 w
theorem Kc.put {W6 w w' : World} {N g gm : Nat} {k k' : List Kept} {runs : Int} {m : Nat → Nat} {v v' : Value} (hB : Blk w g 24 #[v, .int .i64 runs]) (hO : w.ownsRow N 45 26 v k.length (k.flatMap keptL)) (hg : v.ownBlock ≠ some g) (hgm : v.ownBlock ≠ some gm) (hM : Blk w gm 28 (maskA m)) (hb : Below N W6 w)
    (hN : N ≤ g) (hNw : N ≤ w.heap.size) (hne : gm ≠ g) (hw : w.grownBy w' v.ownBlock) (hO' : w'.ownsRow N 45 26 v' k'.length (k'.flatMap keptL)) (hv : ∀ b, v'.ownBlock = some b → v.ownBlock = some b ∨ b = w.heap.size) :
    w'.cell? ⟨g, 0, none⟩ = some v ∧ w'.frozen? ⟨g, 0, none⟩ = false ∧ Hid (Kc W6 N g gm k' runs m (w'.setCell ⟨g, 0, none⟩ v')) := by
  have c1 := blk_off hB hw hg
  have c2 := blk_off hM hw hgm
  have n1 : v'.ownBlock ≠ some g := fun e => by
    rcases hv _ e with h | h
    · exact hg h
    · have := hB.lt; omega
  have n2 : v'.ownBlock ≠ some gm := fun e => by
    rcases hv _ e with h | h
    · exact hgm h
    · have := hM.lt; omega
  exact ⟨c1.cell 0, c1.frozen 0, Lib.hid ⟨v', c1.set 0 _, own_off hO' n1 _, n1, n2, c2.far (p := ⟨g, 0, none⟩) hne _, (hb.trans (own_below hNw hO hw)).setCell (p := ⟨g, 0, none⟩) hN _⟩⟩

theorem Kc.append {W6 w w' : World} {N g gm n l c : Nat} {k k' : List Kept} {runs : Int} {m : Nat → Nat} {v : Value} {cs : Array Value} {t : TypeId} (hB : Blk w g 24 #[v, .int .i64 runs]) (hO : w.ownsRow N 45 26 v k.length (k.flatMap keptL)) (hg : v.ownBlock ≠ some g) (hgm : v.ownBlock ≠ some gm) (hM : Blk w gm 28 (maskA m)) (hb : Below N W6 w)
    (hN : N ≤ g) (hNw : N ≤ w.heap.size) (hne : gm ≠ g) (hw : (w.alloc (.cells cs t)).grownBy w' v.ownBlock) (hO' : w'.ownsRow N 45 26 (.slice (some ⟨n, 0, none⟩) l c) k'.length (k'.flatMap keptL)) (hv : v.ownBlock = some n ∨ n = (w.alloc (.cells cs t)).heap.size) :
    w'.cell? ⟨g, 0, none⟩ = some v ∧ w'.frozen? ⟨g, 0, none⟩ = false ∧ Hid (Kc W6 N g gm k' runs m (w'.setCell ⟨g, 0, none⟩ (.slice (some ⟨n, 0, none⟩) l c))) :=
  Kc.put (hB.alloc (.cells cs t)) (hO.alloc _) hg hgm (hM.alloc _) (hb.alloc hNw _) hN (by rw [World.size_alloc]; omega) hne hw hO' (fun b hb => by
    have e : n = b := by simpa [Value.ownBlock] using hb
    rw [← e]
    exact hv)

/-- the machine's answer, stored -/
theorem run_kept {V : World} (m : Nat → Nat) (a b : Int) (W : World) (hW : W = (((((V.alloc (.cells (maskA fun _ => 0) 28)).alloc (.cells #[.int .i64 0, .int .i64 0] 31)).setRow V.heap.size (maskA m)).setCell ⟨V.heap.size + 1, 0, none⟩ (.int .i64 a)).setCell ⟨V.heap.size + 1, 1, none⟩ (.int .i64 b))) :
    Blk W V.heap.size 28 (maskA m) ∧ Blk W (V.heap.size + 1) 31 #[.int .i64 a, .int .i64 b] ∧ Below V.heap.size V W ∧ V.heap.size + 1 < W.heap.size := by
  subst hW
  have h1 := (((((Blk.new V 28 (maskA fun _ => 0)).alloc (.cells #[.int .i64 0, .int .i64 0] 31)).setRow (maskA m)).far (p := ⟨V.heap.size + 1, 0, none⟩) (by simp) (.int .i64 a)).far (p := ⟨V.heap.size + 1, 1, none⟩) (by simp) (.int .i64 b))
  have h2 := Blk.new (V.alloc (.cells (maskA fun _ => 0) 28)) 31 #[.int .i64 0, .int .i64 0]
  rw [World.size_alloc] at h2
  have h3 := (((h2.farRow (k := V.heap.size) (by omega) (maskA m)).set 0 (.int .i64 a)).set 1 (.int .i64 b))
  exact ⟨h1, h3, (by repeat (first | exact Below.refl _ _ | assumption | refine Below.n _ ?_ (by first | omega | (simp; done) | (simp; omega)) | refine Below.alloc ?_ (by first | omega | (simp; done) | (simp; omega)) _ | refine Below.setCell ?_ (by first | omega | (simp; done) | (simp; omega)) _ | refine Below.drew ?_ | refine Below.setRow ?_ (by first | omega | (simp; done) | (simp; omega)) _ | refine Below.drewN ?_ _)), by simp⟩

/-- the three result cells behind their stores -/
theorem ret_end {w V : World} {N h : Nat} {v : Value} {m : Nat → Nat} {runs a b : Int} {n : Nat} {xs : List Value} (M : Blk V (h + 1 + 1 + 1) 28 (maskA fun _ => 0)) (K : Blk V (h + 1 + 1 + 1 + 1) 24 #[.slice none 0 0, .int .i64 0]) (F : Blk V (h + 1 + 1 + 1 + 1 + 1) 31 #[.int .i64 0, .int .i64 0])
    (hN : h + 5 < N) (hO : V.ownsRow N 45 26 v n xs) (hb : Below h w V) (W : World) (hW : W = ((((V.setRow (h + 1 + 1 + 1) (maskA m)).setCell ⟨h + 1 + 1 + 1 + 1, 0, none⟩ v).setCell ⟨h + 1 + 1 + 1 + 1, 1, none⟩ (.int .i64 runs)).setCell ⟨h + 1 + 1 + 1 + 1 + 1, 0, none⟩ (.int .i64 a)).setCell ⟨h + 1 + 1 + 1 + 1 + 1, 1, none⟩ (.int .i64 b)) :
    cellsAt W (h + 1 + 1 + 1) 0 23 = some (maskA m) ∧ W.cell? ⟨h + 1 + 1 + 1 + 1, 0, none⟩ = some v ∧ W.cell? ⟨h + 1 + 1 + 1 + 1, 1, none⟩ = some (.int .i64 runs) ∧ W.cell? ⟨h + 1 + 1 + 1 + 1 + 1, 0, none⟩ = some (.int .i64 a) ∧ W.cell? ⟨h + 1 + 1 + 1 + 1 + 1, 1, none⟩ = some (.int .i64 b) ∧
      Hid (W.ownsRow N 45 26 v n xs ∧ Below h w W) := by
  subst hW
  have M1 := ((((M.setRow (maskA m)).far (p := ⟨h + 1 + 1 + 1 + 1, 0, none⟩) (by simp) v).far (p := ⟨h + 1 + 1 + 1 + 1, 1, none⟩) (by simp) (.int .i64 runs)).far (p := ⟨h + 1 + 1 + 1 + 1 + 1, 0, none⟩) (by first | (simp; done) | (simp; omega)) (.int .i64 a)).far (p := ⟨h + 1 + 1 + 1 + 1 + 1, 1, none⟩) (by first | (simp; done) | (simp; omega)) (.int .i64 b)
  have K1 := ((((K.farRow (k := h + 1 + 1 + 1) (by omega) (maskA m)).set 0 v).set 1 (.int .i64 runs)).far (p := ⟨h + 1 + 1 + 1 + 1 + 1, 0, none⟩) (by simp) (.int .i64 a)).far (p := ⟨h + 1 + 1 + 1 + 1 + 1, 1, none⟩) (by simp) (.int .i64 b)
  have F1 := ((((F.farRow (k := h + 1 + 1 + 1) (by omega) (maskA m)).far (p := ⟨h + 1 + 1 + 1 + 1, 0, none⟩) (by simp) v).far (p := ⟨h + 1 + 1 + 1 + 1, 1, none⟩) (by simp) (.int .i64 runs)).set 0 (.int .i64 a)).set 1 (.int .i64 b)
  refine ⟨blk_cells M1, K1.cell 0, K1.cell 1, F1.cell 0, F1.cell 1, Lib.hid ⟨?_, ?_⟩⟩
  · have hB : ∀ q, q < N → v.ownBlock ≠ some q := fun q hq e => by have := hO.lt _ e; omega
    have o1 : (V.setRow (h + 1 + 1 + 1) (maskA m)).ownsRow N 45 26 v n xs := by
      refine ⟨hO.1, ?_⟩
      rcases hO.2 with h0 | ⟨g, cap, cur, h1, h2, h3, h4⟩
      · exact .inl h0
      · exact .inr ⟨g, cap, cur, h1, h2, by rw [setRow_other V (h + 1 + 1 + 1) g (maskA m) (by omega)]; exact h3, h4⟩
    exact own_off (own_off (own_off (own_off o1 (p := ⟨_, _, none⟩) (hB _ (by simp; omega)) _) (p := ⟨_, _, none⟩) (hB _ (by simp; omega)) _) (p := ⟨_, _, none⟩) (hB _ (by simp; omega)) _) (p := ⟨_, _, none⟩) (hB _ (by simp; omega)) _
  · exact ((((Below.setRow hb (by omega) _).setCell (p := ⟨_, _, none⟩) (by simp; omega) _).setCell (p := ⟨_, _, none⟩) (by simp; omega) _).setCell (p := ⟨_, _, none⟩) (by simp; omega) _).setCell (p := ⟨_, _, none⟩) (by simp; omega) _

end Kp
end Go.Proofs.Ythdaeddaofickaa

namespace Go.Proofs.Ythdaeddaofickaa
open Go.RowKit
namespace Kp
open Msk Sl Vm

/-- behind the cache's making: its place, what it keeps -/
def Got (W : World) (N : Nat) (k : List Kept) (runs : Int) (s : Value) (wx : World) : Prop := ∃ g, s = .pointer (some ⟨g, 0, none⟩) ∧ N ≤ g ∧ Below N W wx ∧ Cach wx N g k runs
/-- the row was made, and the cache's block: in whatever order -/
theorem got_made {W V w1 w1' w2 : World} {N : Nat} {k : List Kept} {runs : Int} {v : Value} (hN : W.heap.size = N) (hb1 : Below N W w1) (ho : w1'.ownsRow w1.heap.size 45 26 v k.length (k.flatMap keptL)) (h2 : N ≤ w2.heap.size)
    (g1 : Fr.Gr w1' V) (g2 : Fr.Gr (w2.alloc (.cells #[.slice none 0 0, .int .i64 0] 24)) V) (hl : Fr.Gr w1' w2 ∨ Fr.Gr (w2.alloc (.cells #[.slice none 0 0, .int .i64 0] 24)) w1) (hV : Below N W V) :
    Got W N k runs (.pointer (some ⟨w2.heap.size, 0, none⟩)) ((V.setCell ⟨w2.heap.size, 0, none⟩ v).setCell ⟨w2.heap.size, 1, none⟩ (.int .i64 runs)) := by
  have z1 := hb1.size
  have hne : v.ownBlock ≠ some w2.heap.size := fun e => by
    have := ho.lt _ e
    rcases hl with h | h
    · have := h.size; omega
    · have := h.size; rw [World.size_alloc] at this; omega
  have hB := ((Blk.new w2 24 #[.slice none 0 0, .int .i64 0]).below g2 (by rw [World.size_alloc]; omega)).set 0 v |>.set 1 (.int .i64 runs)
  have hO := own_off (own_off (own_mono (own_keep ho g1 (Nat.le_refl _)) (by omega : N ≤ w1.heap.size)) (p := ⟨w2.heap.size, 0, none⟩) hne v) (p := ⟨w2.heap.size, 1, none⟩) hne (.int .i64 runs)
  exact ⟨_, rfl, h2, (hV.setCell (p := ⟨_, _, none⟩) h2 _).setCell (p := ⟨_, _, none⟩) h2 _, v, hB, hO, hne⟩

/-- what Get gives: a mask, and a cache that keeps so much -/
def GetPost (w : World) (k : List Kept) (runs : Int) (m : Nat → Nat) (e : Ending) (w' : World) : Prop :=
  ∃ v, e = .returned (.tuple #[.agg (maskA m), .agg #[v, .int .i64 runs], .agg #[.int .i64 0, .int .i64 0]]) ∧ Below w.heap.size w w' ∧ w'.ownsRow w.heap.size 45 26 v k.length (k.flatMap keptL)
theorem GetPost.mk {w W : World} {N n : Nat} {k k' : List Kept} {runs : Int} {m m' : Nat → Nat} {v : Value} (ha : k' = k) (hm : m' = m) (hn : k.length = n) (ho : W.ownsRow N 45 26 v n (k.flatMap keptL)) (hb : Below w.heap.size w W) (hN : w.heap.size ≤ N) :
    GetPost w k' runs m' (.returned (.tuple #[.agg (maskA m), .agg #[v, .int .i64 runs], .agg #[.int .i64 0, .int .i64 0]])) W := by
  subst ha hm hn
  exact ⟨v, rfl, hb, own_mono ho hN⟩
theorem after_hit {k : List Kept} {rule day ver : Int} {x : Kept} {P : Nat} (hh : hit k rule day ver = true) (hP : place k rule day = P) (hx : k[P]? = some x) (hv : x.ver = ver) (hk : x.rule = rule ∧ x.day = day) (m : Nat → Nat) : after k rule day ver m = (k.take P ++ k.drop (P + 1)) ++ [x] ∧ hitMask k rule day = x.mask := by
  have hm : hitMask k rule day = x.mask := by unfold hitMask; rw [hP, hx]; rfl
  refine ⟨?_, hm⟩
  unfold after gone
  rw [if_pos hh, hP, hm, List.eraseIdx_eq_take_drop_succ, ← hv, ← hk.1, ← hk.2]

set_option maxRecDepth 100000 in
set_option maxHeartbeats 4000000 in
theorem Get_hit (kv codeV : Value) (k : List Kept) (l : List Vm.Code) (runs ver rule day : Int) (w : World) (hk : KeptV w w.heap.size kv k) (hlen : (k.length + 1) * 208 ≤ 140737488355328) (_hl : CodesV w w.heap.size codeV l) (hh : hit k rule day ver = true) :
    Calls Try.prog 9 #[.agg #[kv, .int .i64 runs], codeV, .int .i64 ver, .int .i64 rule, .int .i64 day] w (GetPost w (after k rule day ver fun _ => 0) runs (hitMask k rule day)) := by
  have hk' := Lib.hid hk
  have hok : ∀ x ∈ k, okW x.mask := fun x hx => by
    obtain ⟨i, hi⟩ := List.getElem?_of_mem hx
    obtain ⟨_, _, _, _, h⟩ := hk
    obtain ⟨_, _, _, _, _, h⟩ := h i x hi
    exact h
  obtain ⟨x, hx, hver⟩ : ∃ x, k[place k rule day]? = some x ∧ x.ver = ver := by
    unfold hit at hh
    split at hh
    · exact ⟨_, ‹_›, by simpa using hh⟩
    · cases hh
  have hP := (List.getElem?_eq_some_iff.1 hx).1
  have hpI : placeI k rule day = (place k rule day : Nat) := by unfold placeI; rw [if_pos hP]
  have hkey := place_key hx
  replace hver := Lib.hid hver
  replace hpI := Lib.hid hpI
  replace hkey := Lib.hid hkey
  replace hx := Lib.hid hx
  replace hok := Lib.hid hok
  obtain ⟨A0, cap0, rfl, _, _⟩ := hk
  go_enter Try.func9, Try.ntmps9
  go_upto_region 1 with fail
  obtain ⟨W6, hW6⟩ : ∃ W6, W6 = (((((w.alloc (.cells #[.slice A0 k.length cap0, .int .i64 runs] 24)).alloc (.cells #[.int .i64 rule] 3)).alloc (.cells #[.int .i64 day] 3)).alloc (.cells (maskA fun _ => 0) 28)).alloc (.cells #[.slice none 0 0, .int .i64 0] 24)).alloc (.cells #[.int .i64 0, .int .i64 0] 31) := ⟨_, rfl⟩
  have hb6 : Below w.heap.size w W6 := by rw [hW6]; exact (by repeat (first | exact Below.refl _ _ | assumption | refine Below.n _ ?_ (by first | omega | (simp; done) | (simp; omega)) | refine Below.alloc ?_ (by first | omega | (simp; done) | (simp; omega)) _ | refine Below.setCell ?_ (by first | omega | (simp; done) | (simp; omega)) _ | refine Below.drew ?_ | refine Below.setRow ?_ (by first | omega | (simp; done) | (simp; omega)) _ | refine Below.drewN ?_ _))
  have z6 : W6.heap.size = w.heap.size + 6 := by rw [hW6]; simp
  have M6 : Blk W6 (w.heap.size + 1 + 1 + 1) 28 (maskA fun _ => 0) := by
    have := ((Blk.new (((w.alloc (.cells #[.slice A0 k.length cap0, .int .i64 runs] 24)).alloc (.cells #[.int .i64 rule] 3)).alloc (.cells #[.int .i64 day] 3)) 28 (maskA fun _ => 0)).alloc (.cells #[.slice none 0 0, .int .i64 0] 24)).alloc (.cells #[.int .i64 0, .int .i64 0] 31)
    rw [hW6]; simpa using this
  have K6 : Blk W6 (w.heap.size + 1 + 1 + 1 + 1) 24 #[.slice none 0 0, .int .i64 0] := by
    have := (Blk.new ((((w.alloc (.cells #[.slice A0 k.length cap0, .int .i64 runs] 24)).alloc (.cells #[.int .i64 rule] 3)).alloc (.cells #[.int .i64 day] 3)).alloc (.cells (maskA fun _ => 0) 28)) 24 #[.slice none 0 0, .int .i64 0]).alloc (.cells #[.int .i64 0, .int .i64 0] 31)
    rw [hW6]; simpa using this
  have F6 : Blk W6 (w.heap.size + 1 + 1 + 1 + 1 + 1) 31 #[.int .i64 0, .int .i64 0] := by
    have := Blk.new (((((w.alloc (.cells #[.slice A0 k.length cap0, .int .i64 runs] 24)).alloc (.cells #[.int .i64 rule] 3)).alloc (.cells #[.int .i64 day] 3)).alloc (.cells (maskA fun _ => 0) 28)).alloc (.cells #[.slice none 0 0, .int .i64 0] 24)) 31 #[.int .i64 0, .int .i64 0]
    rw [hW6]; simpa using this
  have c0 : W6.cell? ⟨w.heap.size, 0, none⟩ = some (.slice A0 k.length cap0) := by rw [hW6]; simp [go_sem]
  have c1 : W6.cell? ⟨w.heap.size, 1, none⟩ = some (.int .i64 runs) := by rw [hW6]; simp [go_sem]
  have c2 : W6.cell? ⟨w.heap.size + 1, 0, none⟩ = some (.int .i64 rule) := by rw [hW6]; simp [go_sem]
  have c3 : W6.cell? ⟨w.heap.size + 1 + 1, 0, none⟩ = some (.int .i64 day) := by rw [hW6]; simp [go_sem]
  have hkf := Lib.hid (fun (W' : World) (h : Below W6.heap.size W6 W') => show KeptV W' W'.heap.size (.slice A0 k.length cap0) k from hk'.out.below (hb6.trans (h.mono (by omega))) (Nat.le_refl _) (by have := h.size; omega))
  rw [← hW6]
  replace hW6 := Lib.hid hW6
  clear hk'
  go_cut [13] (fun s13 wx => Got W6 W6.heap.size k runs s13 wx)
  case first =>
    have y6 : w.heap.size + 5 < W6.heap.size := by omega
    refine Fr.wp_region_made [(4, fun v V V' => V'.ownsRow V.heap.size 45 26 v k.length (k.flatMap keptL)), (6, fun v V V' => v = .pointer (some ⟨V.heap.size, 0, none⟩) ∧ V' = V.alloc (.cells #[.slice none 0 0, .int .i64 0] 24))]
      7 W6.heap.size W6 (Below.refl _ _) (Nat.le_refl _) (by kernel_rfl) (by kernel_rfl) ?_
    simp only [List.take_succ_cons, List.take_zero, List.drop_succ_cons, List.drop_zero]
    refine Fr.free_take 4 (Fr.class_ne _ _) (by rfl) (by rfl) ?_
    simp only [List.take_succ_cons, List.take_zero, List.drop_succ_cons, List.drop_zero]
    iterate 4 (go_big_quiet_step ((fail)))
    refine wpQuiet_nil ?_
    change Fr.wpFree _ _ _ _ _ _ _ _ 4 _ _
    refine Fr.free_ev rfl rfl (Nat.le_of_ble_eq_true rfl) (fun V hv => ?_) ?_
    · obtain ⟨⟨m, rfl⟩, _⟩ := hv
      go_wp2_with fail
      refine (Clone_any _ k _ (hkf.out _ m.below) (by omega)).mono ?_
      rintro e w1 ⟨v1, rfl, hb1, ho1⟩
      replace ho1 := Lib.hid ho1
      go_wp2
      exact ⟨hb1, ho1.out⟩
    intro v1 V1 V1' hv1 hg1 ho1
    replace ho1 : V1'.ownsRow V1.heap.size 45 26 v1 k.length (k.flatMap keptL) := ho1
    obtain ⟨A1, cap1, rfl⟩ := own_slice ho1
    simp only [Act.put, List.setIfInBounds_toArray, List.set_cons_succ, List.set_cons_zero]
    replace ho1 := Lib.hid ho1
    refine Fr.free_take 1 (Fr.class_ne _ _) (by rfl) (by rfl) ?_
    simp only [List.take_succ_cons, List.take_zero, List.drop_succ_cons, List.drop_zero]
    iterate 1 (go_big_quiet_step ((fail)))
    refine wpQuiet_nil ?_
    change Fr.wpFree _ _ _ _ _ _ _ _ 6 _ _
    refine Fr.free_ev rfl rfl (Nat.le_of_ble_eq_true rfl) (fun V hv => ?_) ?_
    · obtain ⟨⟨m, rfl⟩, _⟩ := hv
      go_wp2
      exact (Below.refl _ _).alloc (Nat.le_refl _) _
    rintro v2 V2 V2' hv2 hg2 ⟨rfl, rfl⟩
    simp only [Act.put, List.setIfInBounds_toArray, List.set_cons_succ, List.set_cons_zero]
    refine Fr.free_nil ?_
    intro wf hbd hlin
    obtain ⟨m1, hm1⟩ := hv1.1
    obtain ⟨m2, hm2⟩ := hv2.1
    obtain ⟨mf, hmf⟩ := hbd.1
    have b1 : Below W6.heap.size W6 V1 := by rw [hm1]; exact m1.below
    have b2 : Below W6.heap.size W6 V2 := by rw [hm2]; exact m2.below
    have bf : Below W6.heap.size W6 wf := by rw [hmf]; exact mf.below
    clear hm1 hm2 hmf
    have q2 := Fr.Bd.hd hbd
    have q1 := Fr.Bd.hd (Fr.Bd.tl hbd)
    have ql := hlin _ _ (.inr (.inl rfl)) (.inl rfl) (by simp)
    have B2 := (Blk.new V2 24 #[.slice none 0 0, .int .i64 0]).below q2 (by rw [World.size_alloc]; omega)
    have d0 := B2.cell 0
    have d1 := B2.cell 1
    have f0 := B2.frozen 0
    have f1 := B2.frozen 1
    simp at d0 d1
    have hfin := Lib.hid (got_made (runs := runs) rfl b1 ho1.out (by have := b2.size; omega) q1 q2 ql bf)
    clear hlin hbd q1 q2 ql
    change wpList _ _ _ _ _ _
    go_wp2
    go_meet
    exact hfin.out
  case rest =>
    obtain ⟨g, rfl, hg, hbx, v, hB, hO, hne⟩ := hcut
    obtain ⟨gr, cap, rfl, hgr, hgr2, hcx⟩ := own_at hO keptL_len hx.out
    have z := hbx.size
    have e2 : wc.cell? ⟨w.heap.size + 1, 0, none⟩ = some (.int .i64 rule) := (hbx.cell (p := ⟨_, _, none⟩) (by simp; omega)).trans c2
    have e3 : wc.cell? ⟨w.heap.size + 1 + 1, 0, none⟩ = some (.int .i64 day) := (hbx.cell (p := ⟨_, _, none⟩) (by simp; omega)).trans c3
    have d0 : wc.cell? ⟨g, 0, none⟩ = some (.slice (some ⟨gr, 0, none⟩) k.length cap) := hB.cell 0
    have hgl := hB.lt
    have hcs : cellsAt wc gr (place k rule day * 26) 26 = some (keptA x) := cellsAt_some.2 ⟨keptA_size x, fun j hj => by
      rw [Array.getElem?_eq_getElem (by rw [keptA_size]; exact hj)]
      exact hcx j _ (by unfold keptL; rw [Array.getElem?_toList, Array.getElem?_eq_getElem (by rw [keptA_size]; exact hj)])⟩
    have cv : wc.cell? ⟨gr, place k rule day * 26 + 2, none⟩ = some (.int .i64 ver) := by
      rw [← hver.out]
      exact hcx 2 _ (by unfold keptL; rw [Array.getElem?_toList, keptA_2])
    have hrest := Lib.hid (own_kept hO hok.out (by omega))
    have hI := Lib.hid (hpI.out ▸ index_any (.slice (some ⟨gr, 0, none⟩) k.length cap) k rule day (w.heap.size + 1) (w.heap.size + 1 + 1) wc hrest.out e2 e3 (by omega) (by omega))
    replace hO := Lib.hid hO
    replace hx := Lib.hid hx.out
    clear hkf hcx
    replace z6 := Lib.hid z6
    have hsz := Lib.hid (keptA_size x)
    have hone := Lib.hid (keptA_one x)
    obtain ⟨cs, hxs⟩ : ∃ cs, cs = keptA x := ⟨_, rfl⟩
    rw [← hxs] at hsz hone hcs
    replace hxs := Lib.hid hxs
    have hst := fun (W : World) (b : Nat) => run_storeRow (P := Try.prog) W b 26 cs hsz.out hone.out
    have haft := Lib.hid (after_hit hh rfl hx.out hver.out hkey.out fun _ => 0)
    clear hh
    generalize place k rule day = P at *
    go_wp2_with fail
    refine hI.out.mono ?_
    rintro e w2 ⟨rfl, hb2⟩
    obtain ⟨n2, rfl⟩ := After.of hb2
    go_upto_region 5 with fail
    obtain ⟨W5, hW5⟩ : ∃ W5, W5 = ((n2.w.alloc (.cells #[.int .i64 0, .int .i64 0, .int .i64 0, .int .u64 0, .int .u64 0, .int .u64 0, .int .u64 0, .int .u64 0, .int .u64 0, .int .u64 0, .int .u64 0, .int .u64 0, .int .u64 0, .int .u64 0, .int .u64 0, .int .u64 0, .int .u64 0, .int .u64 0, .int .u64 0, .int .u64 0, .int .u64 0, .int .u64 0, .int .u64 0, .int .u64 0, .int .u64 0, .int .u64 0] 45)).setRow n2.w.heap.size cs) := ⟨_, rfl⟩
    have z2 := n2.size
    have B5 : Blk W5 n2.w.heap.size 45 cs := by rw [hW5]; exact (Blk.new _ _ _).setRow cs
    have hb5 : Below wc.heap.size wc W5 := by rw [hW5]; exact (by repeat (first | exact Below.refl _ _ | assumption | refine Below.n _ ?_ (by first | omega | (simp; done) | (simp; omega)) | refine Below.alloc ?_ (by first | omega | (simp; done) | (simp; omega)) _ | refine Below.setCell ?_ (by first | omega | (simp; done) | (simp; omega)) _ | refine Below.drew ?_ | refine Below.setRow ?_ (by first | omega | (simp; done) | (simp; omega)) _ | refine Below.drewN ?_ _))
    have z5 : W5.heap.size = n2.w.heap.size + 1 := by rw [hW5]; simp
    rw [← hW5]
    replace hW5 := Lib.hid hW5
    have hB5 := hB.below hb5 hgl
    have hO5 := Lib.hid (own_keep hO.out hb5 (Nat.le_refl _))
    have d5 : W5.cell? ⟨g, 0, none⟩ = some (.slice (some ⟨gr, 0, none⟩) k.length cap) := hB5.cell 0
    have c5 : cellsAt W5 n2.w.heap.size 0 26 = some cs := by have := B5.cells; rwa [hsz.out] at this
    have hP63 : (P : Int) + 1 ≤ 9223372036854775807 := by omega
    generalize n2.w.heap.size = g5 at *
    have y5 : g5 < W5.heap.size := by omega
    have y7 : g < W5.heap.size := by omega
    have y8 : gr < W5.heap.size := by omega
    replace z5 := Lib.hid z5
    have hlay := fun (z : Array Value) (hz : z.size = 26) => lay_any cs z 26 hsz.out hz
    have hOf := Lib.hid (fun (V : World) (h : Below W5.heap.size W5 V) => own_keep hO5.out h (Nat.le_refl _))
    have hgne : gr ≠ g := fun e => hne (by rw [e]; rfl)
    have hgr5 : gr ≠ g5 := by omega
    have hbelow5 := Lib.hid (hbx.trans (hb5.mono z))
    have hBf := Lib.hid (fun (V w4 : World) (h : Below W5.heap.size W5 V) (hg4 : V.grownBy w4 (some gr)) => show Blk w4 g 24 #[.slice (some ⟨gr, 0, none⟩) k.length cap, .int .i64 runs] ∧ Blk w4 g5 45 cs ∧ cellsAt w4 g5 0 26 = some cs ∧ Below W6.heap.size W6 w4 ∧ W5.heap.size ≤ w4.heap.size from by
      have b1 := blk_off (hB5.below h (by omega)) hg4 (by simpa using hgne)
      have b2 := blk_off (B5.below h (by omega)) hg4 (by simpa using hgr5)
      have b3 : cellsAt w4 g5 0 26 = some cs := by have := b2.cells; rwa [hsz.out] at this
      have y := h.size
      have b4 := (hbelow5.out.trans (h.mono (by omega))).trans (own_below (by omega) (hOf.out V h) hg4)
      exact ⟨b1, b2, b3, b4, by have := hg4.size; omega⟩)
    obtain ⟨k1, hk1⟩ : ∃ k1, k1 = k.take P ++ k.drop (P + 1) := ⟨_, rfl⟩
    replace hk1 := Lib.hid hk1
    go_cut [] (fun wx => Below W6.heap.size W6 wx ∧ Blk wx g5 45 cs ∧ Cach wx W6.heap.size g (k1 ++ [x]) runs)
    case first =>
      clear hrest hI hW5 hb2 hcs e2 e3 d0 cv
      have hB0 : Below W5.heap.size W5 W5.drew := (Below.refl _ W5).drew
      have hB1 : Below W5.heap.size W5 (W5.drew.alloc (.cells cs 45)) := hB0.alloc (Nat.le_refl _) _
      have hD0 := Lib.hid (Delete_any W6.heap.size _ k P (P + 1) W5.drew (hOf.out _ hB0) (by omega) (by omega))
      have hD1 := Lib.hid (Delete_any W6.heap.size _ k P (P + 1) _ (hOf.out _ hB1) (by omega) (by omega))
      have hnm : (Try.f22.name == "runtime.NumGoroutine") = false := by kernel_rfl
      obtain ⟨bd, hbd⟩ : ∃ c, Try.f22.body = some c := ⟨_, rfl⟩
      replace hbd := Lib.hid hbd
      replace hnm := Lib.hid hnm
      have L0 := Blk.new W5.drew 45 cs
      have hn5 : (Value.slice (some ⟨gr, 0, none⟩) k.length cap).ownBlock ≠ some g5 := by simpa [Value.ownBlock] using hgr5
      have hn6 : (Value.slice (some ⟨gr, 0, none⟩) k.length cap).ownBlock ≠ some W5.heap.size := by simp [Value.ownBlock]; omega
      have hN5 : W6.heap.size ≤ W5.heap.size := by have := hbelow5.out.size; omega
      have hlen2 := gone_fits hP hlen
      rw [← hk1.out] at hD0 hD1 hlen2
      have hg59 : g5 ≠ g := by omega
      have hll := snoc_len k1 x
      replace hll := Lib.hid hll
      replace hlen2 := Lib.hid hlen2
      have q5 : IntKind.i64.wrap ((P : Int) + 1) = (P : Int) + 1 := IntWalk.i64_in _ ⟨by omega, by omega⟩
      go_region_law (first
        | (refine step_call3 rfl 22 Try.func22 hnm.out hbd.out _ _ _ _ _ _ rfl (.slice (some ⟨gr, 0, none⟩) k.length cap) (.int .i64 (P : Nat)) (.int .i64 (P + 1 : Nat)) rfl rfl rfl ?_; refine hD0.out.mono ?_; rintro e w4 ⟨v4, rfl, hg4, he4, ho4⟩; obtain ⟨A4, cap4, rfl⟩ := own_slice ho4; obtain ⟨b1, b2, b3, b4, y4⟩ := hBf.out _ _ hB0 hg4; replace ho4 := Lib.hid ho4; have hne4 : (Value.slice A4 k1.length cap4).ownBlock ≠ some g := fun e => hne (he4.symm.trans e); have hne5 : (Value.slice A4 k1.length cap4).ownBlock ≠ some g5 := fun e => hn5 (he4.symm.trans e); have n4 := Nat.le_trans hN5 y4; refine ⟨_, rfl, ?_⟩)
        | (refine step_call3 rfl 22 Try.func22 hnm.out hbd.out _ _ _ _ _ _ rfl (.slice (some ⟨gr, 0, none⟩) k.length cap) (.int .i64 (P : Nat)) (.int .i64 (P + 1 : Nat)) rfl rfl rfl ?_; refine hD1.out.mono ?_; rintro e w4 ⟨v4, rfl, hg4, he4, ho4⟩; obtain ⟨A4, cap4, rfl⟩ := own_slice ho4; obtain ⟨b1, b2, b3, b4, y4⟩ := hBf.out _ _ hB1 hg4; replace ho4 := Lib.hid ho4; have hne4 : (Value.slice A4 k1.length cap4).ownBlock ≠ some g := fun e => hne (he4.symm.trans e); have hne5 : (Value.slice A4 k1.length cap4).ownBlock ≠ some g5 := fun e => hn5 (he4.symm.trans e); have n4 := Nat.le_trans hN5 y4; have L4 := blk_off L0 hg4 hn6; refine ⟨_, rfl, ?_⟩)
        | (refine step_keep hxs.out ho4.out L4 hlen2.out n4 rfl _ _ rfl rfl rfl ?_; intro gg c5 w5 ho5 hg5 hgg; obtain ⟨k5, f5, hend⟩ := keep_end b1 b2 b4 ho4.out n4 hne4 hne5 hg hg59 hll.out ho5 hg5 hgg; clear ho5 hg5 hgg)
        | (refine step_keep hxs.out (ho4.out.alloc _) (Blk.new w4 45 cs) hlen2.out (Nat.le_trans n4 (Below.size ((Below.refl w4.heap.size w4).alloc (Nat.le_refl _) _))) rfl _ _ rfl rfl rfl ?_; intro gg c5 w5 ho5 hg5 hgg; obtain ⟨k5, f5, hend⟩ := keep_end (b1.alloc _) (b2.alloc _) (b4.alloc n4 _) (ho4.out.alloc _) (Nat.le_trans n4 (Below.size ((Below.refl w4.heap.size w4).alloc (Nat.le_refl _) _))) hne4 hne5 hg hg59 hll.out ho5 hg5 hgg; clear ho5 hg5 hgg))
      all_goals
        go_wp2_with fail
        go_meet
        exact hend.out
    case rest =>
      obtain ⟨hb6x, B6, C6⟩ := hcut
      clear hlay hOf hBf hbelow5 c5 hO5 d5 B5 hB5 hb5 hcs hI hrest e2 e3 d0 cv hB hne hst hgne hgr5 hW5 hb2
      obtain ⟨v6, hB6, hO6, hne6⟩ := C6
      obtain ⟨A6, cap6, rfl⟩ := own_slice hO6
      have B6m : cellsAt wc g5 3 23 = some (maskA x.mask) := cellsAt_some.2 ⟨maskA_size _, fun j hj => by rw [B6.cell, hxs.out, keptA_mask]⟩
      have y6 : w.heap.size + 5 < W6.heap.size := by rw [z6.out]; omega
      have y6c := hb6x.size
      have yg5 := B6.lt
      have ygg := hB6.lt
      have d0 := hB6.cell 0
      have d1 := hB6.cell 1
      simp only [List.getElem?_toArray, List.getElem?_cons_zero, List.getElem?_cons_succ] at d0 d1
      replace hO6 := Lib.hid hO6
      generalize hkk : (k1 ++ [x]).length = nn at *
      replace hkk := Lib.hid hkk
      go_wp2_with fail
      have M7 := M6.below hb6x (by omega)
      have K7 := K6.below hb6x (by omega)
      have F7 := F6.below hb6x (by omega)
      have t0 := blk_free M7
      have t1 := K7.cell 0
      have t2 := K7.cell 1
      have t3 := F7.cell 0
      have t4 := F7.cell 1
      simp only [List.getElem?_toArray, List.getElem?_cons_zero, List.getElem?_cons_succ] at t1 t2 t3 t4
      have t5 := K7.frozen 0
      have t6 := K7.frozen 1
      have t7 := F7.frozen 0
      have t8 := F7.frozen 1
      go_region
      all_goals
        have E := ret_end (w := w) (m := x.mask) (a := 0) (b := 0) (runs := runs) (show Blk wc.drew (w.heap.size + 1 + 1 + 1) 28 (maskA fun _ => 0) from M7) (show Blk wc.drew (w.heap.size + 1 + 1 + 1 + 1) 24 #[.slice none 0 0, .int .i64 0] from K7) (show Blk wc.drew (w.heap.size + 1 + 1 + 1 + 1 + 1) 31 #[.int .i64 0, .int .i64 0] from F7) y6 hO6.out.drew ((hb6.trans (hb6x.mono (by omega))).drew) _ rfl
        obtain ⟨r0, r1, r2, r3, r4, r5⟩ := E
        go_wp2_with fail
        refine bodyPost_ret (v := .tuple #[.agg (maskA x.mask), .agg #[.slice A6 nn cap6, .int .i64 runs], .agg #[.int .i64 0, .int .i64 0]]) ?_ rfl ?_
        · simp [results, Try.results9, go_sem, r0, r1, r2, r3, r4]
        · exact GetPost.mk (haft.out.1.trans (by rw [hk1.out])) haft.out.2 hkk.out r5.out.1 r5.out.2 hb6.size
end Kp
end Go.Proofs.Ythdaeddaofickaa

namespace Go.Proofs.Ythdaeddaofickaa
open Go.RowKit
namespace Kp
open Msk Sl Vm

/-- what Get gives where the machine was asked: m, and its fault -/
def MissPost (w : World) (k : List Kept) (runs rule day ver : Int) (m : Nat → Nat) (a b : Int) (e : Ending) (w' : World) : Prop :=
  (a ≠ 0 → e = .returned (.tuple #[.agg (maskA fun _ => 0), .agg #[.slice none 0 0, .int .i64 0], .agg #[.int .i64 a, .int .i64 b]]) ∧ Below w.heap.size w w') ∧
  (a = 0 → GetPost w (after k rule day ver m) (wrap64 (runs + 1)) m e w')

set_option maxRecDepth 100000 in
set_option maxHeartbeats 4000000 in
theorem Get_miss (kv codeV : Value) (k : List Kept) (l : List Vm.Code) (runs ver rule day : Int) (w : World) (hk : KeptV w w.heap.size kv k) (hlen : (k.length + 1) * 208 ≤ 140737488355328) (hl : CodesV w w.heap.size codeV l) (hh : hit k rule day ver = false) (m : Nat → Nat) (c a b : Int) (hab : a = 0 → b = 0)
    (hRun : ∀ W, CodesV W W.heap.size codeV l → Calls Try.prog 13 #[codeV, .int .i64 rule, .int .i64 day] W (fun e w' => e = .returned (.tuple #[.agg (maskA m), .int .i64 c, .agg #[.int .i64 a, .int .i64 b]]) ∧ Below W.heap.size W w')) :
    Calls Try.prog 9 #[.agg #[kv, .int .i64 runs], codeV, .int .i64 ver, .int .i64 rule, .int .i64 day] w (MissPost w k runs rule day ver m a b) := by
  replace hab := Lib.hid hab
  have hl' := Lib.hid hl
  have hRun' := Lib.hid hRun
  clear hl hRun
  have hk' := Lib.hid hk
  have hok : ∀ x ∈ k, okW x.mask := fun x hx => by
    obtain ⟨i, hi⟩ := List.getElem?_of_mem hx
    obtain ⟨_, _, _, _, h⟩ := hk
    obtain ⟨_, _, _, _, _, h⟩ := h i x hi
    exact h
  replace hok := Lib.hid hok
  obtain ⟨A0, cap0, rfl, _, _⟩ := hk
  go_enter Try.func9, Try.ntmps9
  go_upto_region 1 with fail
  obtain ⟨W6, hW6⟩ : ∃ W6, W6 = (((((w.alloc (.cells #[.slice A0 k.length cap0, .int .i64 runs] 24)).alloc (.cells #[.int .i64 rule] 3)).alloc (.cells #[.int .i64 day] 3)).alloc (.cells (maskA fun _ => 0) 28)).alloc (.cells #[.slice none 0 0, .int .i64 0] 24)).alloc (.cells #[.int .i64 0, .int .i64 0] 31) := ⟨_, rfl⟩
  have hb6 : Below w.heap.size w W6 := by rw [hW6]; exact (by repeat (first | exact Below.refl _ _ | assumption | refine Below.n _ ?_ (by first | omega | (simp; done) | (simp; omega)) | refine Below.alloc ?_ (by first | omega | (simp; done) | (simp; omega)) _ | refine Below.setCell ?_ (by first | omega | (simp; done) | (simp; omega)) _ | refine Below.drew ?_ | refine Below.setRow ?_ (by first | omega | (simp; done) | (simp; omega)) _ | refine Below.drewN ?_ _))
  have z6 : W6.heap.size = w.heap.size + 6 := by rw [hW6]; simp
  have M6 : Blk W6 (w.heap.size + 1 + 1 + 1) 28 (maskA fun _ => 0) := by
    have := ((Blk.new (((w.alloc (.cells #[.slice A0 k.length cap0, .int .i64 runs] 24)).alloc (.cells #[.int .i64 rule] 3)).alloc (.cells #[.int .i64 day] 3)) 28 (maskA fun _ => 0)).alloc (.cells #[.slice none 0 0, .int .i64 0] 24)).alloc (.cells #[.int .i64 0, .int .i64 0] 31)
    rw [hW6]; simpa using this
  have K6 : Blk W6 (w.heap.size + 1 + 1 + 1 + 1) 24 #[.slice none 0 0, .int .i64 0] := by
    have := (Blk.new ((((w.alloc (.cells #[.slice A0 k.length cap0, .int .i64 runs] 24)).alloc (.cells #[.int .i64 rule] 3)).alloc (.cells #[.int .i64 day] 3)).alloc (.cells (maskA fun _ => 0) 28)) 24 #[.slice none 0 0, .int .i64 0]).alloc (.cells #[.int .i64 0, .int .i64 0] 31)
    rw [hW6]; simpa using this
  have F6 : Blk W6 (w.heap.size + 1 + 1 + 1 + 1 + 1) 31 #[.int .i64 0, .int .i64 0] := by
    have := Blk.new (((((w.alloc (.cells #[.slice A0 k.length cap0, .int .i64 runs] 24)).alloc (.cells #[.int .i64 rule] 3)).alloc (.cells #[.int .i64 day] 3)).alloc (.cells (maskA fun _ => 0) 28)).alloc (.cells #[.slice none 0 0, .int .i64 0] 24)) 31 #[.int .i64 0, .int .i64 0]
    rw [hW6]; simpa using this
  have c0 : W6.cell? ⟨w.heap.size, 0, none⟩ = some (.slice A0 k.length cap0) := by rw [hW6]; simp [go_sem]
  have c1 : W6.cell? ⟨w.heap.size, 1, none⟩ = some (.int .i64 runs) := by rw [hW6]; simp [go_sem]
  have c2 : W6.cell? ⟨w.heap.size + 1, 0, none⟩ = some (.int .i64 rule) := by rw [hW6]; simp [go_sem]
  have c3 : W6.cell? ⟨w.heap.size + 1 + 1, 0, none⟩ = some (.int .i64 day) := by rw [hW6]; simp [go_sem]
  have hkf := Lib.hid (fun (W' : World) (h : Below W6.heap.size W6 W') => show KeptV W' W'.heap.size (.slice A0 k.length cap0) k from hk'.out.below (hb6.trans (h.mono (by omega))) (Nat.le_refl _) (by have := h.size; omega))
  rw [← hW6]
  replace hW6 := Lib.hid hW6
  clear hk'
  go_cut [13] (fun s13 wx => Got W6 W6.heap.size k runs s13 wx)
  case first =>
    have y6 : w.heap.size + 5 < W6.heap.size := by omega
    refine Fr.wp_region_made [(4, fun v V V' => V'.ownsRow V.heap.size 45 26 v k.length (k.flatMap keptL)), (6, fun v V V' => v = .pointer (some ⟨V.heap.size, 0, none⟩) ∧ V' = V.alloc (.cells #[.slice none 0 0, .int .i64 0] 24))]
      7 W6.heap.size W6 (Below.refl _ _) (Nat.le_refl _) (by kernel_rfl) (by kernel_rfl) ?_
    simp only [List.take_succ_cons, List.take_zero, List.drop_succ_cons, List.drop_zero]
    refine Fr.free_take 4 (Fr.class_ne _ _) (by rfl) (by rfl) ?_
    simp only [List.take_succ_cons, List.take_zero, List.drop_succ_cons, List.drop_zero]
    iterate 4 (go_big_quiet_step ((fail)))
    refine wpQuiet_nil ?_
    change Fr.wpFree _ _ _ _ _ _ _ _ 4 _ _
    refine Fr.free_ev rfl rfl (Nat.le_of_ble_eq_true rfl) (fun V hv => ?_) ?_
    · obtain ⟨⟨m, rfl⟩, _⟩ := hv
      go_wp2_with fail
      refine (Clone_any _ k _ (hkf.out _ m.below) (by omega)).mono ?_
      rintro e w1 ⟨v1, rfl, hb1, ho1⟩
      replace ho1 := Lib.hid ho1
      go_wp2
      exact ⟨hb1, ho1.out⟩
    intro v1 V1 V1' hv1 hg1 ho1
    replace ho1 : V1'.ownsRow V1.heap.size 45 26 v1 k.length (k.flatMap keptL) := ho1
    obtain ⟨A1, cap1, rfl⟩ := own_slice ho1
    simp only [Act.put, List.setIfInBounds_toArray, List.set_cons_succ, List.set_cons_zero]
    replace ho1 := Lib.hid ho1
    refine Fr.free_take 1 (Fr.class_ne _ _) (by rfl) (by rfl) ?_
    simp only [List.take_succ_cons, List.take_zero, List.drop_succ_cons, List.drop_zero]
    iterate 1 (go_big_quiet_step ((fail)))
    refine wpQuiet_nil ?_
    change Fr.wpFree _ _ _ _ _ _ _ _ 6 _ _
    refine Fr.free_ev rfl rfl (Nat.le_of_ble_eq_true rfl) (fun V hv => ?_) ?_
    · obtain ⟨⟨m, rfl⟩, _⟩ := hv
      go_wp2
      exact (Below.refl _ _).alloc (Nat.le_refl _) _
    rintro v2 V2 V2' hv2 hg2 ⟨rfl, rfl⟩
    simp only [Act.put, List.setIfInBounds_toArray, List.set_cons_succ, List.set_cons_zero]
    refine Fr.free_nil ?_
    intro wf hbd hlin
    obtain ⟨m1, hm1⟩ := hv1.1
    obtain ⟨m2, hm2⟩ := hv2.1
    obtain ⟨mf, hmf⟩ := hbd.1
    have b1 : Below W6.heap.size W6 V1 := by rw [hm1]; exact m1.below
    have b2 : Below W6.heap.size W6 V2 := by rw [hm2]; exact m2.below
    have bf : Below W6.heap.size W6 wf := by rw [hmf]; exact mf.below
    clear hm1 hm2 hmf
    have q2 := Fr.Bd.hd hbd
    have q1 := Fr.Bd.hd (Fr.Bd.tl hbd)
    have ql := hlin _ _ (.inr (.inl rfl)) (.inl rfl) (by simp)
    have B2 := (Blk.new V2 24 #[.slice none 0 0, .int .i64 0]).below q2 (by rw [World.size_alloc]; omega)
    have d0 := B2.cell 0
    have d1 := B2.cell 1
    have f0 := B2.frozen 0
    have f1 := B2.frozen 1
    simp at d0 d1
    have hfin := Lib.hid (got_made (runs := runs) rfl b1 ho1.out (by have := b2.size; omega) q1 q2 ql bf)
    clear hlin hbd q1 q2 ql
    change wpList _ _ _ _ _ _
    go_wp2
    go_meet
    exact hfin.out
  case rest =>
    obtain ⟨g, rfl, hg, hbx, v, hB, hO, hne⟩ := hcut
    obtain ⟨A, cap, rfl⟩ := own_slice hO
    have z := hbx.size
    have e2 : wc.cell? ⟨w.heap.size + 1, 0, none⟩ = some (.int .i64 rule) := (hbx.cell (p := ⟨_, _, none⟩) (by simp; omega)).trans c2
    have e3 : wc.cell? ⟨w.heap.size + 1 + 1, 0, none⟩ = some (.int .i64 day) := (hbx.cell (p := ⟨_, _, none⟩) (by simp; omega)).trans c3
    have d0 : wc.cell? ⟨g, 0, none⟩ = some (.slice A k.length cap) := hB.cell 0
    have d1 : wc.cell? ⟨g, 1, none⟩ = some (.int .i64 runs) := hB.cell 1
    have hgl := hB.lt
    have y7 : w.heap.size + 5 < wc.heap.size := by omega
    have hI := Lib.hid (index_any (.slice A k.length cap) k rule day (w.heap.size + 1) (w.heap.size + 1 + 1) wc (own_kept hO hok.out (by omega)) e2 e3 (by omega) (by omega))
    replace hO := Lib.hid hO
    clear hkf
    replace z6 := Lib.hid z6
    go_wp2_with fail
    refine hI.out.mono ?_
    rintro e w2 ⟨rfl, hb2⟩
    obtain ⟨n2, rfl⟩ := After.of hb2
    have z2 := n2.size
    go_upto_region 3 with fail
    go_cut [14, 41] (fun s14 s41 wx => s14 = .int .i64 (placeI k rule day) ∧ s41 = .bool false ∧ wx = n2.w)
    case first =>
      unfold hit at hh
      by_cases hP : place k rule day < k.length
      · obtain ⟨x, hx⟩ : ∃ x, k[place k rule day]? = some x := ⟨_, List.getElem?_eq_getElem hP⟩
        have hpI : placeI k rule day = (place k rule day : Nat) := by unfold placeI; rw [if_pos hP]
        obtain ⟨gr, cap', e, hgr, hgr2, hcx⟩ := own_at hO.out keptL_len hx
        cases e
        have cv : wc.cell? ⟨gr, place k rule day * 26 + 2, none⟩ = some (.int .i64 x.ver) := hcx 2 _ (by unfold keptL; rw [Array.getElem?_toList, keptA_2])
        rw [hx] at hh
        have gv : (x.ver == ver) = false := by simpa using hh
        rw [hpI]
        replace hpI := Lib.hid hpI
        clear hh hcx hx
        generalize place k rule day = P at *
        go_wp2_with fail
        go_meet
        exact ⟨congrArg _ hpI.out.symm, rfl, rfl⟩
      · have hpI : placeI k rule day = -1 := by unfold placeI; rw [if_neg hP]
        rw [hpI]
        replace hpI := Lib.hid hpI
        clear hh
        go_wp2_with fail
        go_meet
        exact ⟨congrArg _ hpI.out.symm, rfl, rfl⟩
    case rest =>
      obtain ⟨rfl, rfl, rfl⟩ := hcut
      go_wp2_with fail
      have hbn : Below w.heap.size w n2.w := (hb6.trans (hbx.mono (by rw [z6.out]; omega))).trans (hb2.mono (by omega))
      refine (hRun'.out _ (hl'.out.below hbn (Nat.le_refl _) (by omega))).mono ?_
      rintro e w3 ⟨rfl, hb3⟩
      obtain ⟨n3, rfl⟩ := After.of hb3
      have z3 := n3.size
      have y9 : w.heap.size + 5 < W6.heap.size := by rw [z6.out]; omega
      by_cases ha : a = 0
      · by_cases hb0 : b = 0
        · subst ha hb0
          have hngm : (Value.slice A k.length cap).ownBlock ≠ some n3.w.heap.size := fun e => by have := (hO.out.lt _ e).2; omega
          replace hO := own_keep (own_keep hO.out hb2 (Nat.le_refl _)) hb3 (Nat.le_refl _)
          replace hB := (hB.below hb2 (by omega)).below hb3 (by omega)
          have hb9 := (hbx.trans (hb2.mono z)).trans (hb3.mono (by omega))
          clear hI e2 e3 d0 d1
          replace hO := Lib.hid hO
          go_upto_region 10 with fail
          obtain ⟨W8, hW8⟩ : ∃ W8, W8 = (((((n3.w.alloc (.cells (maskA fun _ => 0) 28)).alloc (.cells #[.int .i64 0, .int .i64 0] 31)).setRow n3.w.heap.size (maskA m)).setCell ⟨n3.w.heap.size + 1, 0, none⟩ (.int .i64 0)).setCell ⟨n3.w.heap.size + 1, 1, none⟩ (.int .i64 0)) := ⟨_, rfl⟩
          rw [← hW8]
          obtain ⟨B8, _, hb8, y8⟩ := run_kept m 0 0 W8 hW8
          replace hW8 := Lib.hid hW8
          replace hO := Lib.hid (own_keep hO.out hb8 (Nat.le_refl _))
          replace hB := hB.below hb8 (by omega)
          replace hb9 := hb9.trans (hb8.mono (by omega))
          clear hb8
          generalize n3.w.heap.size = gm at *
          have c8 := hB.cell 1
          have c8' := hB.cell 0
          simp only [List.getElem?_toArray, List.getElem?_cons_zero, List.getElem?_cons_succ] at c8 c8'
          have f8 := hB.frozen 1
          go_upto_if 80 with fail
          replace hO := Lib.hid (own_off hO.out (p := ⟨g, 1, none⟩) hne (.int .i64 (wrap64 (runs + 1))))
          replace hB := hB.set 1 (.int .i64 (wrap64 (runs + 1)))
          replace B8 := B8.far (p := ⟨g, 1, none⟩) (show gm ≠ g by omega) (.int .i64 (wrap64 (runs + 1)))
          replace hb9 := hb9.setCell (p := ⟨g, 1, none⟩) hg (.int .i64 (wrap64 (runs + 1)))
          have y8' : gm + 1 < (W8.setCell ⟨g, 1, none⟩ (.int .i64 (wrap64 (runs + 1)))).heap.size := by simp; omega
          clear c8 f8 c8'
          generalize (W8.setCell ⟨g, 1, none⟩ (.int .i64 (wrap64 (runs + 1)))) = W9 at *
          have hgmg : gm ≠ g := by omega
          replace hB : Blk W9 g 24 #[.slice A k.length cap, .int .i64 (wrap64 (runs + 1))] := hB
          go_cut [14] (fun s14 wx => Kc W6 W6.heap.size g gm (gone k rule day) (wrap64 (runs + 1)) m wx)
          case first =>
            by_cases hP : place k rule day < k.length
            · have hpI : placeI k rule day = (place k rule day : Nat) := by unfold placeI; rw [if_pos hP]
              have hgn : gone k rule day = k.take (place k rule day) ++ k.drop (place k rule day + 1) := List.eraseIdx_eq_take_drop_succ _ _
              have d0 : W9.cell? ⟨g, 0, none⟩ = some (.slice A k.length cap) := hB.cell 0
              have hD := Delete_any W6.heap.size _ k (place k rule day) (place k rule day + 1) W9 hO.out (by omega) (by omega)
              rw [← hgn] at hD
              replace hD := Lib.hid hD
              obtain ⟨k1, hk1⟩ : ∃ k1, k1 = gone k rule day := ⟨_, rfl⟩
              rw [← hk1] at hD
              replace hk1 := Lib.hid hk1
              rw [hpI]
              replace hpI := Lib.hid hpI
              replace hgn := Lib.hid hgn
              have hgl9 := hB.lt
              generalize place k rule day = P at *
              go_wp2_with fail
              refine hD.out.mono ?_
              rintro e w10 ⟨v', rfl, hg10, he10, hO10⟩
              have hend := Kc.put hB hO.out hne hngm B8 hb9 hg (by omega) hgmg hg10 hO10 (fun b hb => .inl (he10 ▸ hb))
              obtain ⟨k10, f10, hend⟩ := hend
              obtain ⟨A10, cap10, rfl⟩ := own_slice hO10
              clear hO10 hg10
              go_wp2_with fail
              go_meet
              rw [← hk1.out]
              exact hend.out
            · have hpI : placeI k rule day = -1 := by unfold placeI; rw [if_neg hP]
              have hgn : gone k rule day = k := List.eraseIdx_of_length_le (by omega)
              rw [hpI]
              replace hpI := Lib.hid hpI
              replace hgn := Lib.hid hgn
              go_wp2_with fail
              go_meet
              rw [hgn.out]
              exact ⟨_, hB, hO.out, hne, hngm, B8, hb9⟩
          case rest =>
            go_upto_region 13 with fail
            go_cut [] (fun wx => Kc W6 W6.heap.size g gm (gone k rule day ++ [⟨rule, day, ver, m⟩]) (wrap64 (runs + 1)) m wx)
            case first =>
              obtain ⟨v, hBc, hOc, hnc, hngc, hMc, hbc⟩ := hcut
              obtain ⟨A', cap', rfl⟩ := own_slice hOc
              have hkl : (gone k rule day).length ≤ k.length := by rw [gone_length]; split <;> omega
              obtain ⟨k1, hk1⟩ : ∃ k1, k1 = gone k rule day := ⟨_, rfl⟩
              rw [← hk1] at hBc hOc hnc hngc hkl
              replace hk1 := Lib.hid hk1
              have d0 : wc.cell? ⟨g, 0, none⟩ = some (.slice A' k1.length cap') := hBc.cell 0
              have e2 : wc.cell? ⟨w.heap.size + 1, 0, none⟩ = some (.int .i64 rule) := (hbc.cell (p := ⟨_, _, none⟩) (by simp; omega)).trans c2
              have e3 : wc.cell? ⟨w.heap.size + 1 + 1, 0, none⟩ = some (.int .i64 day) := (hbc.cell (p := ⟨_, _, none⟩) (by simp; omega)).trans c3
              have k8 := blk_cells hMc
              have hlay3 := lay_entry rule day ver m
              have hfit : (k1.length + 1) * 208 ≤ 140737488355328 := by omega
              have hbase : W6.heap.size ≤ wc.heap.size := hbc.size
              have hgw := hBc.lt
              have hgw2 := hMc.lt
              obtain ⟨cs, hcs⟩ : ∃ cs, cs = keptA ⟨rule, day, ver, m⟩ := ⟨_, rfl⟩
              have hsz : cs.size = 26 := by rw [hcs]; exact keptA_size _
              rw [← hcs] at hlay3
              have hlay := fun (z : Array Value) (hz : z.size = 26) => lay_any cs z 26 hsz hz
              obtain ⟨ms, hms⟩ : ∃ ms, ms = maskA m := ⟨_, rfl⟩
              rw [← hms] at k8 hlay3
              have hmz : ms.size = 23 := by rw [hms]; exact maskA_size m
              replace hms := Lib.hid hms
              replace hOc := Lib.hid hOc
              replace hfit := Lib.hid hfit
              replace hcs := Lib.hid hcs
              have hbase2 : W6.heap.size ≤ (wc.alloc (.cells cs 45)).heap.size := Nat.le_trans hbase (Below.size ((Below.refl wc.heap.size wc).alloc (Nat.le_refl _) (.cells cs 45)))
              obtain ⟨k2, hk2⟩ : ∃ k2, k2 = k1 ++ [(⟨rule, day, ver, m⟩ : Kept)] := ⟨_, rfl⟩
              clear c0 c1 c2 c3 hlen
              go_wp2_with (at_builtin; refine wpList_keep (x := ⟨rule, day, ver, m⟩) hcs.out (hOc.out.alloc _) (Blk.new wc 45 cs) hfit.out hbase2 rfl (.tmp 89) (.tmp 95) rfl rfl rfl ?_; intro nn cc w11 ho11 hg11 hn11; rw [← hk2] at ho11; obtain ⟨k11, f11, hend⟩ := Kc.append hBc hOc.out hnc hngc hMc hbc hg hbase hgmg hg11 ho11 hn11; clear ho11 hg11 hn11)
              go_meet
              rw [← hk1.out, ← hk2]
              exact hend.out
            case rest =>
              have haft : after k rule day ver m = cut (gone k rule day ++ [⟨rule, day, ver, m⟩]) := by unfold after; rw [hh]; rfl
              replace haft := Lib.hid haft
              generalize gone k rule day ++ [(⟨rule, day, ver, m⟩ : Kept)] = k2 at *
              obtain ⟨v, hBc, hOc, hnc, hngc, hMc, hbc⟩ := hcut
              obtain ⟨A', cap', rfl⟩ := own_slice hOc
              have d0 : wc.cell? ⟨g, 0, none⟩ = some (.slice A' k2.length cap') := hBc.cell 0
              have hl2 : k2.length ≤ 9223372036854775807 := own_max hOc
              replace hOc := Lib.hid hOc
              clear c0 c1 c2 c3 hlen
              have hbase : W6.heap.size ≤ wc.heap.size := hbc.size
              go_upto_if 103 with fail
              go_cut [19] (fun s19 wx => Kc W6 W6.heap.size g gm (after k rule day ver m) (wrap64 (runs + 1)) m wx)
              case first =>
                by_cases h64 : 64 < k2.length
                · have hct : cut k2 = k2.take 0 ++ k2.drop (k2.length - 64) := by unfold cut; rw [if_pos h64]; simp
                  have hD := Delete_any W6.heap.size _ k2 0 (k2.length - 64) wc hOc.out (by omega) (by omega)
                  rw [← hct, ← haft.out] at hD
                  obtain ⟨k3, hk3⟩ : ∃ k3, k3 = after k rule day ver m := ⟨_, rfl⟩
                  rw [← hk3] at hD
                  replace hk3 := Lib.hid hk3
                  replace hct := Lib.hid hct
                  obtain ⟨j, hj⟩ : ∃ j, k2.length = j + 64 := ⟨k2.length - 64, by omega⟩
                  have hjp : 0 < j := by omega
                  have g1 : decide ((0 : Int) < (j : Int)) = true := by simpa using hjp
                  have g2 : decide (0 < j) = true := by simpa using hjp
                  rw [hj] at hD d0 hBc hOc hnc hngc hl2
                  rw [Nat.add_sub_cancel] at hD
                  rw [hj]
                  replace hj := Lib.hid hj
                  replace hD := Lib.hid hD
                  clear h64
                  go_wp2_with fail
                  refine hD.out.mono ?_
                  rintro e w12 ⟨v', rfl, hg12, he12, hO12⟩
                  have hend := Kc.put (k := k2) hBc (by rw [hj.out]; exact hOc.out) hnc hngc hMc hbc hg hbase hgmg hg12 hO12 (fun b hb => .inl (he12 ▸ hb))
                  obtain ⟨k12, f12, hend⟩ := hend
                  obtain ⟨A12, cap12, rfl⟩ := own_slice hO12
                  clear hO12 hg12
                  go_wp2_with fail
                  go_meet
                  rw [← hk3.out]
                  exact hend.out
                · have hct : cut k2 = k2 := by unfold cut; rw [if_neg h64]
                  have g1 : decide ((0 : Int) < (k2.length : Int) - 64) = false := by simp; omega
                  have hle : k2.length ≤ 64 := by omega
                  replace hct := Lib.hid hct
                  go_wp2_with fail
                  go_meet
                  rw [haft.out, hct.out]
                  exact ⟨_, hBc, hOc.out, hnc, hngc, hMc, hbc⟩
              case rest =>
                obtain ⟨k3, hk3⟩ : ∃ k3, k3 = after k rule day ver m := ⟨_, rfl⟩
                rw [← hk3] at hcut
                obtain ⟨v, hBd, hOd, hnd, hngd, hMd, hbd⟩ := hcut
                obtain ⟨A3, cap3, rfl⟩ := own_slice hOd
                replace hk3 := Lib.hid hk3
                obtain ⟨nn, hnn⟩ : ∃ nn, nn = k3.length := ⟨_, rfl⟩
                rw [← hnn] at hBd hOd hnd hngd
                replace hnn := Lib.hid hnn
                rename_i wz _
                have d0 := hBd.cell 0
                have d1 := hBd.cell 1
                simp only [List.getElem?_toArray, List.getElem?_cons_zero, List.getElem?_cons_succ] at d0 d1
                have k8 := blk_cells hMd
                replace hOd := Lib.hid hOd
                have M7 := M6.below hbd (by omega)
                have K7 := K6.below hbd (by omega)
                have F7 := F6.below hbd (by omega)
                have t0 := blk_free M7
                have t1 := K7.cell 0
                have t2 := K7.cell 1
                have t3 := F7.cell 0
                have t4 := F7.cell 1
                simp only [List.getElem?_toArray, List.getElem?_cons_zero, List.getElem?_cons_succ] at t1 t2 t3 t4
                have t5 := K7.frozen 0
                have t6 := K7.frozen 1
                have t7 := F7.frozen 0
                have t8 := F7.frozen 1
                have y7b : w.heap.size + 1 + 1 + 1 + 1 + 1 < gm := by omega
                have y7c : w.heap.size + 1 + 1 + 1 + 1 + 1 < g := by omega
                clear hBc hOc hnc hngc hMc hbc hbase hl2 hb9 hB hO hne hb2 hb3 B8 hngm hbx
                go_wp2_with fail
                go_region
                all_goals
                  have E := ret_end (w := w) (m := m) (a := 0) (b := 0) (runs := wrap64 (runs + 1)) (show Blk wc.drew (w.heap.size + 1 + 1 + 1) 28 (maskA fun _ => 0) from M7) (show Blk wc.drew (w.heap.size + 1 + 1 + 1 + 1) 24 #[.slice none 0 0, .int .i64 0] from K7) (show Blk wc.drew (w.heap.size + 1 + 1 + 1 + 1 + 1) 31 #[.int .i64 0, .int .i64 0] from F7) y9 hOd.out.drew ((hb6.trans (hbd.mono (by omega))).drew) _ rfl
                  obtain ⟨r0, r1, r2, r3, r4, r5⟩ := E
                  go_wp2_with fail
                  refine bodyPost_ret (v := .tuple #[.agg (maskA m), .agg #[.slice A3 nn cap3, .int .i64 (wrap64 (runs + 1))], .agg #[.int .i64 0, .int .i64 0]]) ?_ rfl ?_
                  · simp [results, Try.results9, go_sem, r0, r1, r2, r3, r4]
                  · exact ⟨fun h => absurd rfl h, fun _ => GetPost.mk hk3.out.symm rfl hnn.out.symm r5.out.1 r5.out.2 hb6.size⟩
        · exact absurd (hab.out ha) hb0
      · have g1 : (a != 0) = true := by simpa using ha
        have M7 := (((M6.below hbx (by omega)).below hb2 (by omega)).below hb3 (by omega))
        have K7 := (((K6.below hbx (by omega)).below hb2 (by omega)).below hb3 (by omega))
        have F7 := (((F6.below hbx (by omega)).below hb2 (by omega)).below hb3 (by omega))
        go_upto_region 9 with fail
        obtain ⟨W8, hW8⟩ : ∃ W8, W8 = (((((n3.w.alloc (.cells (maskA fun _ => 0) 28)).alloc (.cells #[.int .i64 0, .int .i64 0] 31)).setRow n3.w.heap.size (maskA m)).setCell ⟨n3.w.heap.size + 1, 0, none⟩ (.int .i64 a)).setCell ⟨n3.w.heap.size + 1, 1, none⟩ (.int .i64 b)) := ⟨_, rfl⟩
        rw [← hW8]
        obtain ⟨_, B8, hb8, y8⟩ := run_kept m a b W8 hW8
        replace hW8 := Lib.hid hW8
        replace M7 := M7.below hb8 (by omega)
        replace K7 := K7.below hb8 (by omega)
        replace F7 := F7.below hb8 (by omega)
        generalize n3.w.heap.size = gm at *
        have t0 := blk_free M7
        have t1 := K7.cell 0
        have t2 := K7.cell 1
        have t3 := F7.cell 0
        have t4 := F7.cell 1
        have s0 := B8.cell 0
        have s1 := B8.cell 1
        simp only [List.getElem?_toArray, List.getElem?_cons_zero, List.getElem?_cons_succ] at t1 t2 t3 t4 s0 s1
        have t5 := K7.frozen 0
        have t6 := K7.frozen 1
        have t7 := F7.frozen 0
        have t8 := F7.frozen 1
        have y7b : w.heap.size + 1 + 1 + 1 + 1 + 1 < gm := by omega
        have hbb : Below w.heap.size w W8 := (hbn.trans (hb3.mono (by omega))).trans (hb8.mono (by omega))
        clear hI hB hO hne e2 e3 d0 d1 hb8
        go_region
        all_goals
          have E := ret_end (w := w) (m := fun _ => 0) (a := a) (b := b) (runs := 0) (show Blk W8.drew (w.heap.size + 1 + 1 + 1) 28 (maskA fun _ => 0) from M7) (show Blk W8.drew (w.heap.size + 1 + 1 + 1 + 1) 24 #[.slice none 0 0, .int .i64 0] from K7) (show Blk W8.drew (w.heap.size + 1 + 1 + 1 + 1 + 1) 31 #[.int .i64 0, .int .i64 0] from F7) y9 (World.ownsRow_nil _ _ _ _) hbb.drew _ rfl
          obtain ⟨r0, r1, r2, r3, r4, r5⟩ := E
          go_wp2_with fail
          refine bodyPost_ret (v := .tuple #[.agg (maskA fun _ => 0), .agg #[.slice none 0 0, .int .i64 0], .agg #[.int .i64 a, .int .i64 b]]) ?_ rfl ?_
          · simp [results, Try.results9, go_sem, r0, r1, r2, r3, r4]
          · exact ⟨fun _ => ⟨rfl, r5.out.2⟩, fun h => absurd h ha⟩
/-- vm.Run, the same in every world -/
theorem run_fun (codeV : Value) (l : List Vm.Code) (rule day : Int) :
    ((runErr l rule day).1 ≠ 0 ∧ ∀ W, CodesV W W.heap.size codeV l → Calls Try.prog 13 #[codeV, .int .i64 rule, .int .i64 day] W (fun e w' => e = .returned (resV noS 0 (runErr l rule day)) ∧ Below W.heap.size W w')) ∨
    (runErr l rule day = (0, 0) ∧ (wrongL l).1 = 0 ∧ ∃ m c, Ran l rule day m c ∧ 1 ≤ c ∧ c ≤ 20000 ∧ ∀ W, CodesV W W.heap.size codeV l → Calls Try.prog 13 #[codeV, .int .i64 rule, .int .i64 day] W (fun e w' => e = .returned (resV m (c : Nat) (0, 0)) ∧ Below W.heap.size W w')) := by
  by_cases h : (runErr l rule day).1 = 0
  · right
    unfold runErr at h ⊢
    split at h
    · rename_i h1; exact absurd h h1
    · split at h
      · cases h
      · split at h
        · cases h
        · rename_i h1 h2 h3
          have h1' : (wrongL l).1 = 0 := by simpa using h1
          rw [if_neg h1, if_neg h2, if_neg h3]
          obtain ⟨rn, rfl⟩ := Int.eq_ofNat_of_zero_le (show 0 ≤ rule by omega)
          obtain ⟨cd, hcd⟩ : ∃ cd, l[rn]? = some cd := ⟨_, List.getElem?_eq_getElem (by omega)⟩
          have hR := wrongL_right h1'
          obtain ⟨d, m, c, hr, hc1, hc2⟩ := hR.run (Civ.weekI day).toNat day rn cd hcd
          have hst := (hR.code cd (List.mem_of_getElem? hcd)).2.2.2.2.2.1
          exact ⟨rfl, h1', m, c, ⟨d, hr⟩, hc1, by omega, fun W hW => Run_ok codeV l rn day W hW h1' (by omega) (by omega) (by omega) m c ⟨d, hr⟩ (by omega)⟩
  · refine .inl ⟨h, fun W hW => (Run_any codeV l rule day W hW).mono fun e w' ⟨⟨m, c, he, hx⟩, hb⟩ => ?_⟩
    rcases hx with ⟨_, rfl, rfl⟩ | ⟨h0, _⟩
    · exact ⟨he, hb⟩
    · rw [h0] at h; exact absurd rfl h
/-- cache.Get -/
theorem Get_any (kv codeV : Value) (k : List Kept) (l : List Vm.Code) (runs ver rule day : Int) (w : World) (hk : KeptV w w.heap.size kv k) (hlen : (k.length + 1) * 208 ≤ 140737488355328) (hl : CodesV w w.heap.size codeV l) :
    Calls Try.prog 9 #[.agg #[kv, .int .i64 runs], codeV, .int .i64 ver, .int .i64 rule, .int .i64 day] w fun e w' =>
      (hit k rule day ver = true ∧ GetPost w (after k rule day ver fun _ => 0) runs (hitMask k rule day) e w') ∨
      (hit k rule day ver = false ∧ ((runErr l rule day).1 ≠ 0 ∧ e = .returned (.tuple #[.agg (maskA fun _ => 0), .agg #[.slice none 0 0, .int .i64 0], faultV (runErr l rule day)]) ∧ Below w.heap.size w w' ∨
        runErr l rule day = (0, 0) ∧ ∃ m c, Ran l rule day m c ∧ GetPost w (after k rule day ver (setW m)) (wrap64 (runs + 1)) (setW m) e w')) := by
  by_cases hh : hit k rule day ver = true
  · exact (Get_hit kv codeV k l runs ver rule day w hk hlen hl hh).mono fun e w' h => .inl ⟨hh, h⟩
  · replace hh : hit k rule day ver = false := by simpa using hh
    rcases run_fun codeV l rule day with ⟨h1, h2⟩ | ⟨h1, _, m, c, h2, _, _, h3⟩
    · refine (Get_miss kv codeV k l runs ver rule day w hk hlen hl hh (fun _ => 0) 0 (runErr l rule day).1 (runErr l rule day).2 (fun h => absurd h h1) (fun W hW => (h2 W hW).mono fun e w' ⟨he, hb⟩ => ⟨?_, hb⟩)).mono fun e w' h => .inr ⟨hh, .inl ⟨h1, (h.1 h1).1, (h.1 h1).2⟩⟩
      rw [he]
      unfold resV
      rw [setA_noS]
      rfl
    · exact (Get_miss kv codeV k l runs ver rule day w hk hlen hl hh (setW m) (c : Nat) 0 0 (fun _ => rfl) h3).mono fun e w' h => .inr ⟨hh, .inr ⟨h1, m, c, h2, h.2 rfl⟩⟩
end Kp
end Go.Proofs.Ythdaeddaofickaa
