/- The walk of cache.Get. The walk of cache.Get where the machine is asked. -/
import Derived.Test.YthdaeddaofickaaKpG
import Derived.Test.YthdaeddaofickaaVmX
import Derived.Deep.DeepCutAuto
namespace Go.Proofs.Ythdaeddaofickaa
open Go.RowKit
namespace Kp
open Msk Sl Vm

/-- behind the cache's making: its place, what it keeps -/
def Got (W : World) (N : Nat) (k : List Kept) (runs : Int) (s : Value) (wx : World) : Prop := ∃ g, s = .pointer (some ⟨g, 0, none⟩) ∧ N ≤ g ∧ Below N W wx ∧ Cach wx N g k runs
/-- the row was made, and the cache's block: in whatever order -/
theorem got_made {W V w1 w1' w2 : World} {N : Nat} {k : List Kept} {runs : Int} {v : Value} (hN : W.heap.size = N) (hb1 : Below N W w1) (ho : w1'.ownsRow w1.heap.size 45 26 v k.length (k.flatMap keptL)) (h2 : N ≤ w2.heap.size)
    (g1 : Fr.Gr w1' V) (g2 : Fr.Gr (w2.alloc (.cells #[.slice none 0 0, .int .i64 0] 24)) V) (hl : Fr.Gr w1' w2 ∨ Fr.Gr (w2.alloc (.cells #[.slice none 0 0, .int .i64 0] 24)) w1) (hV : Below N W V) :
    Got W N k runs (.pointer (some ⟨w2.heap.size, 0, none⟩)) ((V.setCell ⟨w2.heap.size, 0, none⟩ v).setCell ⟨w2.heap.size, 1, none⟩ (.int .i64 runs)) := by
  have z1 := hb1.size
  have hne : v.ownBlock ≠ some w2.heap.size := fun e => by
    have := ho.lt _ e
    rcases hl with h | h
    · have := h.size; omega
    · have := h.size; rw [World.size_alloc] at this; omega
  have hB := ((Blk.new w2 24 #[.slice none 0 0, .int .i64 0]).below g2 (by rw [World.size_alloc]; omega)).set 0 v |>.set 1 (.int .i64 runs)
  have hO := own_off (own_off (own_mono (own_keep ho g1 (Nat.le_refl _)) (by omega : N ≤ w1.heap.size)) (p := ⟨w2.heap.size, 0, none⟩) hne v) (p := ⟨w2.heap.size, 1, none⟩) hne (.int .i64 runs)
  exact ⟨_, rfl, h2, (hV.setCell (p := ⟨_, _, none⟩) h2 _).setCell (p := ⟨_, _, none⟩) h2 _, v, hB, hO, hne⟩

/-- what Get gives: a mask, and a cache that keeps so much -/
def GetPost (w : World) (k : List Kept) (runs : Int) (m : Nat → Nat) (e : Ending) (w' : World) : Prop :=
  ∃ v, e = .returned (.tuple #[.agg (maskA m), .agg #[v, .int .i64 runs], .agg #[.int .i64 0, .int .i64 0]]) ∧ Below w.heap.size w w' ∧ w'.ownsRow w.heap.size 45 26 v k.length (k.flatMap keptL)
theorem GetPost.mk {w W : World} {N n : Nat} {k k' : List Kept} {runs : Int} {m m' : Nat → Nat} {v : Value} (ha : k' = k) (hm : m' = m) (hn : k.length = n) (ho : W.ownsRow N 45 26 v n (k.flatMap keptL)) (hb : Below w.heap.size w W) (hN : w.heap.size ≤ N) :
    GetPost w k' runs m' (.returned (.tuple #[.agg (maskA m), .agg #[v, .int .i64 runs], .agg #[.int .i64 0, .int .i64 0]])) W := by
  subst ha hm hn
  exact ⟨v, rfl, hb, own_mono ho hN⟩
theorem after_hit {k : List Kept} {rule day ver : Int} {x : Kept} {P : Nat} (hh : hit k rule day ver = true) (hP : place k rule day = P) (hx : k[P]? = some x) (hv : x.ver = ver) (hk : x.rule = rule ∧ x.day = day) (m : Nat → Nat) : after k rule day ver m = (k.take P ++ k.drop (P + 1)) ++ [x] ∧ hitMask k rule day = x.mask := by
  have hm : hitMask k rule day = x.mask := by unfold hitMask; rw [hP, hx]; rfl
  refine ⟨?_, hm⟩
  unfold after gone
  rw [if_pos hh, hP, hm, List.eraseIdx_eq_take_drop_succ, ← hv, ← hk.1, ← hk.2]

set_option maxRecDepth 100000 in
set_option maxHeartbeats 4000000 in
theorem Get_hit (kv codeV : Value) (k : List Kept) (l : List Vm.Code) (runs ver rule day : Int) (w : World) (hk : KeptV w w.heap.size kv k) (hlen : (k.length + 1) * 208 ≤ 140737488355328) (hl : CodesV w w.heap.size codeV l) (hh : hit k rule day ver = true) :
    Calls Try.prog 9 #[.agg #[kv, .int .i64 runs], codeV, .int .i64 ver, .int .i64 rule, .int .i64 day] w (GetPost w (after k rule day ver fun _ => 0) runs (hitMask k rule day)) := by
  have hk' := Lib.hid hk
  have hok : ∀ x ∈ k, okW x.mask := fun x hx => by
    obtain ⟨i, hi⟩ := List.getElem?_of_mem hx
    obtain ⟨_, _, _, _, h⟩ := hk
    obtain ⟨_, _, _, _, _, h⟩ := h i x hi
    exact h
  obtain ⟨x, hx, hver⟩ : ∃ x, k[place k rule day]? = some x ∧ x.ver = ver := by
    unfold hit at hh
    split at hh
    · exact ⟨_, ‹_›, by simpa using hh⟩
    · cases hh
  have hP := (List.getElem?_eq_some_iff.1 hx).1
  have hpI : placeI k rule day = (place k rule day : Nat) := by unfold placeI; rw [if_pos hP]
  have hkey := place_key hx
  replace hver := Lib.hid hver
  replace hpI := Lib.hid hpI
  replace hkey := Lib.hid hkey
  replace hx := Lib.hid hx
  replace hok := Lib.hid hok
  obtain ⟨A0, cap0, rfl, _, _⟩ := hk
  go_enter Try.func9, Try.ntmps9
  go_upto_region 1 with fail
  obtain ⟨W6, hW6⟩ : ∃ W6, W6 = (((((w.alloc (.cells #[.slice A0 k.length cap0, .int .i64 runs] 24)).alloc (.cells #[.int .i64 rule] 3)).alloc (.cells #[.int .i64 day] 3)).alloc (.cells (maskA fun _ => 0) 28)).alloc (.cells #[.slice none 0 0, .int .i64 0] 24)).alloc (.cells #[.int .i64 0, .int .i64 0] 31) := ⟨_, rfl⟩
  have hb6 : Below w.heap.size w W6 := by rw [hW6]; exact (by repeat (first | exact Below.refl _ _ | assumption | refine Below.n _ ?_ (by first | omega | (simp; done) | (simp; omega)) | refine Below.alloc ?_ (by first | omega | (simp; done) | (simp; omega)) _ | refine Below.setCell ?_ (by first | omega | (simp; done) | (simp; omega)) _ | refine Below.drew ?_ | refine Below.setRow ?_ (by first | omega | (simp; done) | (simp; omega)) _ | refine Below.drewN ?_ _))
  have z6 : W6.heap.size = w.heap.size + 6 := by rw [hW6]; simp
  have M6 : Blk W6 (w.heap.size + 1 + 1 + 1) 28 (maskA fun _ => 0) := by
    have := ((Blk.new (((w.alloc (.cells #[.slice A0 k.length cap0, .int .i64 runs] 24)).alloc (.cells #[.int .i64 rule] 3)).alloc (.cells #[.int .i64 day] 3)) 28 (maskA fun _ => 0)).alloc (.cells #[.slice none 0 0, .int .i64 0] 24)).alloc (.cells #[.int .i64 0, .int .i64 0] 31)
    rw [hW6]; simpa using this
  have K6 : Blk W6 (w.heap.size + 1 + 1 + 1 + 1) 24 #[.slice none 0 0, .int .i64 0] := by
    have := (Blk.new ((((w.alloc (.cells #[.slice A0 k.length cap0, .int .i64 runs] 24)).alloc (.cells #[.int .i64 rule] 3)).alloc (.cells #[.int .i64 day] 3)).alloc (.cells (maskA fun _ => 0) 28)) 24 #[.slice none 0 0, .int .i64 0]).alloc (.cells #[.int .i64 0, .int .i64 0] 31)
    rw [hW6]; simpa using this
  have F6 : Blk W6 (w.heap.size + 1 + 1 + 1 + 1 + 1) 31 #[.int .i64 0, .int .i64 0] := by
    have := Blk.new (((((w.alloc (.cells #[.slice A0 k.length cap0, .int .i64 runs] 24)).alloc (.cells #[.int .i64 rule] 3)).alloc (.cells #[.int .i64 day] 3)).alloc (.cells (maskA fun _ => 0) 28)).alloc (.cells #[.slice none 0 0, .int .i64 0] 24)) 31 #[.int .i64 0, .int .i64 0]
    rw [hW6]; simpa using this
  have c0 : W6.cell? ⟨w.heap.size, 0, none⟩ = some (.slice A0 k.length cap0) := by rw [hW6]; simp [go_sem]
  have c1 : W6.cell? ⟨w.heap.size, 1, none⟩ = some (.int .i64 runs) := by rw [hW6]; simp [go_sem]
  have c2 : W6.cell? ⟨w.heap.size + 1, 0, none⟩ = some (.int .i64 rule) := by rw [hW6]; simp [go_sem]
  have c3 : W6.cell? ⟨w.heap.size + 1 + 1, 0, none⟩ = some (.int .i64 day) := by rw [hW6]; simp [go_sem]
  have hkf := Lib.hid (fun (W' : World) (h : Below W6.heap.size W6 W') => show KeptV W' W'.heap.size (.slice A0 k.length cap0) k from hk'.out.below (hb6.trans (h.mono (by omega))) (Nat.le_refl _) (by have := h.size; omega))
  rw [← hW6]
  replace hW6 := Lib.hid hW6
  clear hk'
  go_cut [13] (fun s13 wx => Got W6 W6.heap.size k runs s13 wx)
  case first =>
    have y6 : w.heap.size + 5 < W6.heap.size := by omega
    refine Fr.wp_region_made [(4, fun v V V' => V'.ownsRow V.heap.size 45 26 v k.length (k.flatMap keptL)), (6, fun v V V' => v = .pointer (some ⟨V.heap.size, 0, none⟩) ∧ V' = V.alloc (.cells #[.slice none 0 0, .int .i64 0] 24))]
      7 W6.heap.size W6 (Below.refl _ _) (Nat.le_refl _) (by kernel_rfl) (by kernel_rfl) ?_
    simp only [List.take_succ_cons, List.take_zero, List.drop_succ_cons, List.drop_zero]
    refine Fr.free_take 4 (Fr.class_ne _ _) (by rfl) (by rfl) ?_
    simp only [List.take_succ_cons, List.take_zero, List.drop_succ_cons, List.drop_zero]
    iterate 4 (go_big_quiet_step ((fail)))
    refine wpQuiet_nil ?_
    change Fr.wpFree _ _ _ _ _ _ _ _ 4 _ _
    refine Fr.free_ev rfl rfl (Nat.le_of_ble_eq_true rfl) (fun V hv => ?_) ?_
    · obtain ⟨⟨m, rfl⟩, _⟩ := hv
      go_wp2_with fail
      refine (Clone_any _ k _ (hkf.out _ m.below) (by omega)).mono ?_
      rintro e w1 ⟨v1, rfl, hb1, ho1⟩
      replace ho1 := Lib.hid ho1
      go_wp2
      exact ⟨hb1, ho1.out⟩
    intro v1 V1 V1' hv1 hg1 ho1
    replace ho1 : V1'.ownsRow V1.heap.size 45 26 v1 k.length (k.flatMap keptL) := ho1
    obtain ⟨A1, cap1, rfl⟩ := own_slice ho1
    simp only [Act.put, List.setIfInBounds_toArray, List.set_cons_succ, List.set_cons_zero]
    replace ho1 := Lib.hid ho1
    refine Fr.free_take 1 (Fr.class_ne _ _) (by rfl) (by rfl) ?_
    simp only [List.take_succ_cons, List.take_zero, List.drop_succ_cons, List.drop_zero]
    iterate 1 (go_big_quiet_step ((fail)))
    refine wpQuiet_nil ?_
    change Fr.wpFree _ _ _ _ _ _ _ _ 6 _ _
    refine Fr.free_ev rfl rfl (Nat.le_of_ble_eq_true rfl) (fun V hv => ?_) ?_
    · obtain ⟨⟨m, rfl⟩, _⟩ := hv
      go_wp2
      exact (Below.refl _ _).alloc (Nat.le_refl _) _
    rintro v2 V2 V2' hv2 hg2 ⟨rfl, rfl⟩
    simp only [Act.put, List.setIfInBounds_toArray, List.set_cons_succ, List.set_cons_zero]
    refine Fr.free_nil ?_
    intro wf hbd hlin
    obtain ⟨m1, hm1⟩ := hv1.1
    obtain ⟨m2, hm2⟩ := hv2.1
    obtain ⟨mf, hmf⟩ := hbd.1
    have b1 : Below W6.heap.size W6 V1 := by rw [hm1]; exact m1.below
    have b2 : Below W6.heap.size W6 V2 := by rw [hm2]; exact m2.below
    have bf : Below W6.heap.size W6 wf := by rw [hmf]; exact mf.below
    clear hm1 hm2 hmf
    have q2 := Fr.Bd.hd hbd
    have q1 := Fr.Bd.hd (Fr.Bd.tl hbd)
    have ql := hlin _ _ (.inr (.inl rfl)) (.inl rfl) (by simp)
    have B2 := (Blk.new V2 24 #[.slice none 0 0, .int .i64 0]).below q2 (by rw [World.size_alloc]; omega)
    have d0 := B2.cell 0
    have d1 := B2.cell 1
    have f0 := B2.frozen 0
    have f1 := B2.frozen 1
    simp at d0 d1
    have hfin := Lib.hid (got_made (runs := runs) rfl b1 ho1.out (by have := b2.size; omega) q1 q2 ql bf)
    clear hlin hbd q1 q2 ql
    change wpList _ _ _ _ _ _
    go_wp2
    go_meet
    exact hfin.out
  case rest =>
    obtain ⟨g, rfl, hg, hbx, v, hB, hO, hne⟩ := hcut
    obtain ⟨gr, cap, rfl, hgr, hgr2, hcx⟩ := own_at hO keptL_len hx.out
    have z := hbx.size
    have e2 : wc.cell? ⟨w.heap.size + 1, 0, none⟩ = some (.int .i64 rule) := (hbx.cell (p := ⟨_, _, none⟩) (by simp; omega)).trans c2
    have e3 : wc.cell? ⟨w.heap.size + 1 + 1, 0, none⟩ = some (.int .i64 day) := (hbx.cell (p := ⟨_, _, none⟩) (by simp; omega)).trans c3
    have d0 : wc.cell? ⟨g, 0, none⟩ = some (.slice (some ⟨gr, 0, none⟩) k.length cap) := hB.cell 0
    have hgl := hB.lt
    have hcs : cellsAt wc gr (place k rule day * 26) 26 = some (keptA x) := cellsAt_some.2 ⟨keptA_size x, fun j hj => by
      rw [Array.getElem?_eq_getElem (by rw [keptA_size]; exact hj)]
      exact hcx j _ (by unfold keptL; rw [Array.getElem?_toList, Array.getElem?_eq_getElem (by rw [keptA_size]; exact hj)])⟩
    have cv : wc.cell? ⟨gr, place k rule day * 26 + 2, none⟩ = some (.int .i64 ver) := by
      rw [← hver.out]
      exact hcx 2 _ (by unfold keptL; rw [Array.getElem?_toList, keptA_2])
    have hrest := Lib.hid (own_kept hO hok.out (by omega))
    have hI := Lib.hid (hpI.out ▸ index_any (.slice (some ⟨gr, 0, none⟩) k.length cap) k rule day (w.heap.size + 1) (w.heap.size + 1 + 1) wc hrest.out e2 e3 (by omega) (by omega))
    replace hO := Lib.hid hO
    replace hx := Lib.hid hx.out
    clear hkf hcx
    replace z6 := Lib.hid z6
    have hsz := Lib.hid (keptA_size x)
    have hone := Lib.hid (keptA_one x)
    obtain ⟨cs, hxs⟩ : ∃ cs, cs = keptA x := ⟨_, rfl⟩
    rw [← hxs] at hsz hone hcs
    replace hxs := Lib.hid hxs
    have hst := fun (W : World) (b : Nat) => run_storeRow (P := Try.prog) W b 26 cs hsz.out hone.out
    have haft := Lib.hid (after_hit hh rfl hx.out hver.out hkey.out fun _ => 0)
    clear hh
    generalize place k rule day = P at *
    go_wp2_with fail
    refine hI.out.mono ?_
    rintro e w2 ⟨rfl, hb2⟩
    obtain ⟨n2, rfl⟩ := After.of hb2
    go_upto_region 5 with fail
    obtain ⟨W5, hW5⟩ : ∃ W5, W5 = ((n2.w.alloc (.cells #[.int .i64 0, .int .i64 0, .int .i64 0, .int .u64 0, .int .u64 0, .int .u64 0, .int .u64 0, .int .u64 0, .int .u64 0, .int .u64 0, .int .u64 0, .int .u64 0, .int .u64 0, .int .u64 0, .int .u64 0, .int .u64 0, .int .u64 0, .int .u64 0, .int .u64 0, .int .u64 0, .int .u64 0, .int .u64 0, .int .u64 0, .int .u64 0, .int .u64 0, .int .u64 0] 45)).setRow n2.w.heap.size cs) := ⟨_, rfl⟩
    have z2 := n2.size
    have B5 : Blk W5 n2.w.heap.size 45 cs := by rw [hW5]; exact (Blk.new _ _ _).setRow cs
    have hb5 : Below wc.heap.size wc W5 := by rw [hW5]; exact (by repeat (first | exact Below.refl _ _ | assumption | refine Below.n _ ?_ (by first | omega | (simp; done) | (simp; omega)) | refine Below.alloc ?_ (by first | omega | (simp; done) | (simp; omega)) _ | refine Below.setCell ?_ (by first | omega | (simp; done) | (simp; omega)) _ | refine Below.drew ?_ | refine Below.setRow ?_ (by first | omega | (simp; done) | (simp; omega)) _ | refine Below.drewN ?_ _))
    have z5 : W5.heap.size = n2.w.heap.size + 1 := by rw [hW5]; simp
    rw [← hW5]
    replace hW5 := Lib.hid hW5
    have hB5 := hB.below hb5 hgl
    have hO5 := Lib.hid (own_keep hO.out hb5 (Nat.le_refl _))
    have d5 : W5.cell? ⟨g, 0, none⟩ = some (.slice (some ⟨gr, 0, none⟩) k.length cap) := hB5.cell 0
    have c5 : cellsAt W5 n2.w.heap.size 0 26 = some cs := by have := B5.cells; rwa [hsz.out] at this
    have hP63 : (P : Int) + 1 ≤ 9223372036854775807 := by omega
    generalize n2.w.heap.size = g5 at *
    have y5 : g5 < W5.heap.size := by omega
    have y7 : g < W5.heap.size := by omega
    have y8 : gr < W5.heap.size := by omega
    replace z5 := Lib.hid z5
    have hlay := fun (z : Array Value) (hz : z.size = 26) => lay_any cs z 26 hsz.out hz
    have hOf := Lib.hid (fun (V : World) (h : Below W5.heap.size W5 V) => own_keep hO5.out h (Nat.le_refl _))
    have hgne : gr ≠ g := fun e => hne (by rw [e]; rfl)
    have hgr5 : gr ≠ g5 := by omega
    have hbelow5 := Lib.hid (hbx.trans (hb5.mono z))
    have hBf := Lib.hid (fun (V w4 : World) (h : Below W5.heap.size W5 V) (hg4 : V.grownBy w4 (some gr)) => show Blk w4 g 24 #[.slice (some ⟨gr, 0, none⟩) k.length cap, .int .i64 runs] ∧ Blk w4 g5 45 cs ∧ cellsAt w4 g5 0 26 = some cs ∧ Below W6.heap.size W6 w4 ∧ W5.heap.size ≤ w4.heap.size from by
      have b1 := blk_off (hB5.below h (by omega)) hg4 (by simpa using hgne)
      have b2 := blk_off (B5.below h (by omega)) hg4 (by simpa using hgr5)
      have b3 : cellsAt w4 g5 0 26 = some cs := by have := b2.cells; rwa [hsz.out] at this
      have y := h.size
      have b4 := (hbelow5.out.trans (h.mono (by omega))).trans (own_below (by omega) (hOf.out V h) hg4)
      exact ⟨b1, b2, b3, b4, by have := hg4.size; omega⟩)
    obtain ⟨k1, hk1⟩ : ∃ k1, k1 = k.take P ++ k.drop (P + 1) := ⟨_, rfl⟩
    replace hk1 := Lib.hid hk1
    go_cut [] (fun wx => Below W6.heap.size W6 wx ∧ Blk wx g5 45 cs ∧ Cach wx W6.heap.size g (k1 ++ [x]) runs)
    case first =>
      clear hrest hI hW5 hb2 hcs e2 e3 d0 cv
      have hB0 : Below W5.heap.size W5 W5.drew := (Below.refl _ W5).drew
      have hB1 : Below W5.heap.size W5 (W5.drew.alloc (.cells cs 45)) := hB0.alloc (Nat.le_refl _) _
      have hD0 := Lib.hid (Delete_any W6.heap.size _ k P (P + 1) W5.drew (hOf.out _ hB0) (by omega) (by omega))
      have hD1 := Lib.hid (Delete_any W6.heap.size _ k P (P + 1) _ (hOf.out _ hB1) (by omega) (by omega))
      have hnm : (Try.f22.name == "runtime.NumGoroutine") = false := by kernel_rfl
      obtain ⟨bd, hbd⟩ : ∃ c, Try.f22.body = some c := ⟨_, rfl⟩
      replace hbd := Lib.hid hbd
      replace hnm := Lib.hid hnm
      have L0 := Blk.new W5.drew 45 cs
      have hn5 : (Value.slice (some ⟨gr, 0, none⟩) k.length cap).ownBlock ≠ some g5 := by simpa [Value.ownBlock] using hgr5
      have hn6 : (Value.slice (some ⟨gr, 0, none⟩) k.length cap).ownBlock ≠ some W5.heap.size := by simp [Value.ownBlock]; omega
      have hN5 : W6.heap.size ≤ W5.heap.size := by have := hbelow5.out.size; omega
      have hlen2 := gone_fits hP hlen
      rw [← hk1.out] at hD0 hD1 hlen2
      have hg59 : g5 ≠ g := by omega
      have hll := snoc_len k1 x
      replace hll := Lib.hid hll
      replace hlen2 := Lib.hid hlen2
      have q5 : IntKind.i64.wrap ((P : Int) + 1) = (P : Int) + 1 := IntWalk.i64_in _ ⟨by omega, by omega⟩
      go_region_law (first
        | (refine step_call3 rfl 22 Try.func22 hnm.out hbd.out _ _ _ _ _ _ rfl (.slice (some ⟨gr, 0, none⟩) k.length cap) (.int .i64 (P : Nat)) (.int .i64 (P + 1 : Nat)) rfl rfl rfl ?_; refine hD0.out.mono ?_; rintro e w4 ⟨v4, rfl, hg4, he4, ho4⟩; obtain ⟨A4, cap4, rfl⟩ := own_slice ho4; obtain ⟨b1, b2, b3, b4, y4⟩ := hBf.out _ _ hB0 hg4; replace ho4 := Lib.hid ho4; have hne4 : (Value.slice A4 k1.length cap4).ownBlock ≠ some g := fun e => hne (he4.symm.trans e); have hne5 : (Value.slice A4 k1.length cap4).ownBlock ≠ some g5 := fun e => hn5 (he4.symm.trans e); have n4 := Nat.le_trans hN5 y4; refine ⟨_, rfl, ?_⟩)
        | (refine step_call3 rfl 22 Try.func22 hnm.out hbd.out _ _ _ _ _ _ rfl (.slice (some ⟨gr, 0, none⟩) k.length cap) (.int .i64 (P : Nat)) (.int .i64 (P + 1 : Nat)) rfl rfl rfl ?_; refine hD1.out.mono ?_; rintro e w4 ⟨v4, rfl, hg4, he4, ho4⟩; obtain ⟨A4, cap4, rfl⟩ := own_slice ho4; obtain ⟨b1, b2, b3, b4, y4⟩ := hBf.out _ _ hB1 hg4; replace ho4 := Lib.hid ho4; have hne4 : (Value.slice A4 k1.length cap4).ownBlock ≠ some g := fun e => hne (he4.symm.trans e); have hne5 : (Value.slice A4 k1.length cap4).ownBlock ≠ some g5 := fun e => hn5 (he4.symm.trans e); have n4 := Nat.le_trans hN5 y4; have L4 := blk_off L0 hg4 hn6; refine ⟨_, rfl, ?_⟩)
        | (refine step_keep hxs.out ho4.out L4 hlen2.out n4 rfl _ _ rfl rfl rfl ?_; intro gg c5 w5 ho5 hg5 hgg; obtain ⟨k5, f5, hend⟩ := keep_end b1 b2 b4 ho4.out n4 hne4 hne5 hg hg59 hll.out ho5 hg5 hgg; clear ho5 hg5 hgg)
        | (refine step_keep hxs.out (ho4.out.alloc _) (Blk.new w4 45 cs) hlen2.out (Nat.le_trans n4 (Below.size ((Below.refl w4.heap.size w4).alloc (Nat.le_refl _) _))) rfl _ _ rfl rfl rfl ?_; intro gg c5 w5 ho5 hg5 hgg; obtain ⟨k5, f5, hend⟩ := keep_end (b1.alloc _) (b2.alloc _) (b4.alloc n4 _) (ho4.out.alloc _) (Nat.le_trans n4 (Below.size ((Below.refl w4.heap.size w4).alloc (Nat.le_refl _) _))) hne4 hne5 hg hg59 hll.out ho5 hg5 hgg; clear ho5 hg5 hgg))
      all_goals
        go_wp2_with fail
        go_meet
        exact hend.out
    case rest =>
      obtain ⟨hb6x, B6, C6⟩ := hcut
      clear hlay hOf hBf hbelow5 c5 hO5 d5 B5 hB5 hb5 hcs hI hrest e2 e3 d0 cv hB hne hst hgne hgr5 hW5 hb2
      obtain ⟨v6, hB6, hO6, hne6⟩ := C6
      obtain ⟨A6, cap6, rfl⟩ := own_slice hO6
      have B6m : cellsAt wc g5 3 23 = some (maskA x.mask) := cellsAt_some.2 ⟨maskA_size _, fun j hj => by rw [B6.cell, hxs.out, keptA_mask]⟩
      have y6 : w.heap.size + 5 < W6.heap.size := by rw [z6.out]; omega
      have y6c := hb6x.size
      have yg5 := B6.lt
      have ygg := hB6.lt
      have d0 := hB6.cell 0
      have d1 := hB6.cell 1
      simp only [List.getElem?_toArray, List.getElem?_cons_zero, List.getElem?_cons_succ] at d0 d1
      replace hO6 := Lib.hid hO6
      generalize hkk : (k1 ++ [x]).length = nn at *
      replace hkk := Lib.hid hkk
      go_wp2_with fail
      have M7 := M6.below hb6x (by omega)
      have K7 := K6.below hb6x (by omega)
      have F7 := F6.below hb6x (by omega)
      have t0 := blk_free M7
      have t1 := K7.cell 0
      have t2 := K7.cell 1
      have t3 := F7.cell 0
      have t4 := F7.cell 1
      simp only [List.getElem?_toArray, List.getElem?_cons_zero, List.getElem?_cons_succ] at t1 t2 t3 t4
      have t5 := K7.frozen 0
      have t6 := K7.frozen 1
      have t7 := F7.frozen 0
      have t8 := F7.frozen 1
      go_region
      all_goals
        have E := ret_end (w := w) (m := x.mask) (a := 0) (b := 0) (runs := runs) (show Blk wc.drew (w.heap.size + 1 + 1 + 1) 28 (maskA fun _ => 0) from M7) (show Blk wc.drew (w.heap.size + 1 + 1 + 1 + 1) 24 #[.slice none 0 0, .int .i64 0] from K7) (show Blk wc.drew (w.heap.size + 1 + 1 + 1 + 1 + 1) 31 #[.int .i64 0, .int .i64 0] from F7) y6 hO6.out.drew ((hb6.trans (hb6x.mono (by omega))).drew) _ rfl
        obtain ⟨r0, r1, r2, r3, r4, r5⟩ := E
        go_wp2_with fail
        refine bodyPost_ret (v := .tuple #[.agg (maskA x.mask), .agg #[.slice A6 nn cap6, .int .i64 runs], .agg #[.int .i64 0, .int .i64 0]]) ?_ rfl ?_
        · simp [results, Try.results9, go_sem, r0, r1, r2, r3, r4]
        · exact GetPost.mk (haft.out.1.trans (by rw [hk1.out])) haft.out.2 hkk.out r5.out.1 r5.out.2 hb6.size
end Kp
end Go.Proofs.Ythdaeddaofickaa

namespace Go.Proofs.Ythdaeddaofickaa
open Go.RowKit
namespace Kp
open Msk Sl Vm

/-- what Get gives where the machine was asked: m, and its fault -/
def MissPost (w : World) (k : List Kept) (runs rule day ver : Int) (m : Nat → Nat) (a b : Int) (e : Ending) (w' : World) : Prop :=
  (a ≠ 0 → e = .returned (.tuple #[.agg (maskA fun _ => 0), .agg #[.slice none 0 0, .int .i64 0], .agg #[.int .i64 a, .int .i64 b]]) ∧ Below w.heap.size w w') ∧
  (a = 0 → GetPost w (after k rule day ver m) (wrap64 (runs + 1)) m e w')

set_option maxRecDepth 100000 in
set_option maxHeartbeats 4000000 in
theorem Get_miss (kv codeV : Value) (k : List Kept) (l : List Vm.Code) (runs ver rule day : Int) (w : World) (hk : KeptV w w.heap.size kv k) (hlen : (k.length + 1) * 208 ≤ 140737488355328) (hl : CodesV w w.heap.size codeV l) (hh : hit k rule day ver = false) (m : Nat → Nat) (c a b : Int) (hab : a = 0 → b = 0)
    (hRun : ∀ W, CodesV W W.heap.size codeV l → Calls Try.prog 13 #[codeV, .int .i64 rule, .int .i64 day] W (fun e w' => e = .returned (.tuple #[.agg (maskA m), .int .i64 c, .agg #[.int .i64 a, .int .i64 b]]) ∧ Below W.heap.size W w')) :
    Calls Try.prog 9 #[.agg #[kv, .int .i64 runs], codeV, .int .i64 ver, .int .i64 rule, .int .i64 day] w (MissPost w k runs rule day ver m a b) := by
  replace hab := Lib.hid hab
  have hl' := Lib.hid hl
  have hRun' := Lib.hid hRun
  clear hl hRun
  have hk' := Lib.hid hk
  have hok : ∀ x ∈ k, okW x.mask := fun x hx => by
    obtain ⟨i, hi⟩ := List.getElem?_of_mem hx
    obtain ⟨_, _, _, _, h⟩ := hk
    obtain ⟨_, _, _, _, _, h⟩ := h i x hi
    exact h
  replace hok := Lib.hid hok
  obtain ⟨A0, cap0, rfl, _, _⟩ := hk
  go_enter Try.func9, Try.ntmps9
  go_upto_region 1 with fail
  obtain ⟨W6, hW6⟩ : ∃ W6, W6 = (((((w.alloc (.cells #[.slice A0 k.length cap0, .int .i64 runs] 24)).alloc (.cells #[.int .i64 rule] 3)).alloc (.cells #[.int .i64 day] 3)).alloc (.cells (maskA fun _ => 0) 28)).alloc (.cells #[.slice none 0 0, .int .i64 0] 24)).alloc (.cells #[.int .i64 0, .int .i64 0] 31) := ⟨_, rfl⟩
  have hb6 : Below w.heap.size w W6 := by rw [hW6]; exact (by repeat (first | exact Below.refl _ _ | assumption | refine Below.n _ ?_ (by first | omega | (simp; done) | (simp; omega)) | refine Below.alloc ?_ (by first | omega | (simp; done) | (simp; omega)) _ | refine Below.setCell ?_ (by first | omega | (simp; done) | (simp; omega)) _ | refine Below.drew ?_ | refine Below.setRow ?_ (by first | omega | (simp; done) | (simp; omega)) _ | refine Below.drewN ?_ _))
  have z6 : W6.heap.size = w.heap.size + 6 := by rw [hW6]; simp
  have M6 : Blk W6 (w.heap.size + 1 + 1 + 1) 28 (maskA fun _ => 0) := by
    have := ((Blk.new (((w.alloc (.cells #[.slice A0 k.length cap0, .int .i64 runs] 24)).alloc (.cells #[.int .i64 rule] 3)).alloc (.cells #[.int .i64 day] 3)) 28 (maskA fun _ => 0)).alloc (.cells #[.slice none 0 0, .int .i64 0] 24)).alloc (.cells #[.int .i64 0, .int .i64 0] 31)
    rw [hW6]; simpa using this
  have K6 : Blk W6 (w.heap.size + 1 + 1 + 1 + 1) 24 #[.slice none 0 0, .int .i64 0] := by
    have := (Blk.new ((((w.alloc (.cells #[.slice A0 k.length cap0, .int .i64 runs] 24)).alloc (.cells #[.int .i64 rule] 3)).alloc (.cells #[.int .i64 day] 3)).alloc (.cells (maskA fun _ => 0) 28)) 24 #[.slice none 0 0, .int .i64 0]).alloc (.cells #[.int .i64 0, .int .i64 0] 31)
    rw [hW6]; simpa using this
  have F6 : Blk W6 (w.heap.size + 1 + 1 + 1 + 1 + 1) 31 #[.int .i64 0, .int .i64 0] := by
    have := Blk.new (((((w.alloc (.cells #[.slice A0 k.length cap0, .int .i64 runs] 24)).alloc (.cells #[.int .i64 rule] 3)).alloc (.cells #[.int .i64 day] 3)).alloc (.cells (maskA fun _ => 0) 28)).alloc (.cells #[.slice none 0 0, .int .i64 0] 24)) 31 #[.int .i64 0, .int .i64 0]
    rw [hW6]; simpa using this
  have c0 : W6.cell? ⟨w.heap.size, 0, none⟩ = some (.slice A0 k.length cap0) := by rw [hW6]; simp [go_sem]
  have c1 : W6.cell? ⟨w.heap.size, 1, none⟩ = some (.int .i64 runs) := by rw [hW6]; simp [go_sem]
  have c2 : W6.cell? ⟨w.heap.size + 1, 0, none⟩ = some (.int .i64 rule) := by rw [hW6]; simp [go_sem]
  have c3 : W6.cell? ⟨w.heap.size + 1 + 1, 0, none⟩ = some (.int .i64 day) := by rw [hW6]; simp [go_sem]
  have hkf := Lib.hid (fun (W' : World) (h : Below W6.heap.size W6 W') => show KeptV W' W'.heap.size (.slice A0 k.length cap0) k from hk'.out.below (hb6.trans (h.mono (by omega))) (Nat.le_refl _) (by have := h.size; omega))
  rw [← hW6]
  replace hW6 := Lib.hid hW6
  clear hk'
  go_cut [13] (fun s13 wx => Got W6 W6.heap.size k runs s13 wx)
  case first =>
    have y6 : w.heap.size + 5 < W6.heap.size := by omega
    refine Fr.wp_region_made [(4, fun v V V' => V'.ownsRow V.heap.size 45 26 v k.length (k.flatMap keptL)), (6, fun v V V' => v = .pointer (some ⟨V.heap.size, 0, none⟩) ∧ V' = V.alloc (.cells #[.slice none 0 0, .int .i64 0] 24))]
      7 W6.heap.size W6 (Below.refl _ _) (Nat.le_refl _) (by kernel_rfl) (by kernel_rfl) ?_
    simp only [List.take_succ_cons, List.take_zero, List.drop_succ_cons, List.drop_zero]
    refine Fr.free_take 4 (Fr.class_ne _ _) (by rfl) (by rfl) ?_
    simp only [List.take_succ_cons, List.take_zero, List.drop_succ_cons, List.drop_zero]
    iterate 4 (go_big_quiet_step ((fail)))
    refine wpQuiet_nil ?_
    change Fr.wpFree _ _ _ _ _ _ _ _ 4 _ _
    refine Fr.free_ev rfl rfl (Nat.le_of_ble_eq_true rfl) (fun V hv => ?_) ?_
    · obtain ⟨⟨m, rfl⟩, _⟩ := hv
      go_wp2_with fail
      refine (Clone_any _ k _ (hkf.out _ m.below) (by omega)).mono ?_
      rintro e w1 ⟨v1, rfl, hb1, ho1⟩
      replace ho1 := Lib.hid ho1
      go_wp2
      exact ⟨hb1, ho1.out⟩
    intro v1 V1 V1' hv1 hg1 ho1
    replace ho1 : V1'.ownsRow V1.heap.size 45 26 v1 k.length (k.flatMap keptL) := ho1
    obtain ⟨A1, cap1, rfl⟩ := own_slice ho1
    simp only [Act.put, List.setIfInBounds_toArray, List.set_cons_succ, List.set_cons_zero]
    replace ho1 := Lib.hid ho1
    refine Fr.free_take 1 (Fr.class_ne _ _) (by rfl) (by rfl) ?_
    simp only [List.take_succ_cons, List.take_zero, List.drop_succ_cons, List.drop_zero]
    iterate 1 (go_big_quiet_step ((fail)))
    refine wpQuiet_nil ?_
    change Fr.wpFree _ _ _ _ _ _ _ _ 6 _ _
    refine Fr.free_ev rfl rfl (Nat.le_of_ble_eq_true rfl) (fun V hv => ?_) ?_
    · obtain ⟨⟨m, rfl⟩, _⟩ := hv
      go_wp2
      exact (Below.refl _ _).alloc (Nat.le_refl _) _
    rintro v2 V2 V2' hv2 hg2 ⟨rfl, rfl⟩
    simp only [Act.put, List.setIfInBounds_toArray, List.set_cons_succ, List.set_cons_zero]
    refine Fr.free_nil ?_
    intro wf hbd hlin
    obtain ⟨m1, hm1⟩ := hv1.1
    obtain ⟨m2, hm2⟩ := hv2.1
    obtain ⟨mf, hmf⟩ := hbd.1
    have b1 : Below W6.heap.size W6 V1 := by rw [hm1]; exact m1.below
    have b2 : Below W6.heap.size W6 V2 := by rw [hm2]; exact m2.below
    have bf : Below W6.heap.size W6 wf := by rw [hmf]; exact mf.below
    clear hm1 hm2 hmf
    have q2 := Fr.Bd.hd hbd
    have q1 := Fr.Bd.hd (Fr.Bd.tl hbd)
    have ql := hlin _ _ (.inr (.inl rfl)) (.inl rfl) (by simp)
    have B2 := (Blk.new V2 24 #[.slice none 0 0, .int .i64 0]).below q2 (by rw [World.size_alloc]; omega)
    have d0 := B2.cell 0
    have d1 := B2.cell 1
    have f0 := B2.frozen 0
    have f1 := B2.frozen 1
    simp at d0 d1
    have hfin := Lib.hid (got_made (runs := runs) rfl b1 ho1.out (by have := b2.size; omega) q1 q2 ql bf)
    clear hlin hbd q1 q2 ql
    change wpList _ _ _ _ _ _
    go_wp2
    go_meet
    exact hfin.out
  case rest =>
    obtain ⟨g, rfl, hg, hbx, v, hB, hO, hne⟩ := hcut
    obtain ⟨A, cap, rfl⟩ := own_slice hO
    have z := hbx.size
    have e2 : wc.cell? ⟨w.heap.size + 1, 0, none⟩ = some (.int .i64 rule) := (hbx.cell (p := ⟨_, _, none⟩) (by simp; omega)).trans c2
    have e3 : wc.cell? ⟨w.heap.size + 1 + 1, 0, none⟩ = some (.int .i64 day) := (hbx.cell (p := ⟨_, _, none⟩) (by simp; omega)).trans c3
    have d0 : wc.cell? ⟨g, 0, none⟩ = some (.slice A k.length cap) := hB.cell 0
    have d1 : wc.cell? ⟨g, 1, none⟩ = some (.int .i64 runs) := hB.cell 1
    have hgl := hB.lt
    have y7 : w.heap.size + 5 < wc.heap.size := by omega
    have hI := Lib.hid (index_any (.slice A k.length cap) k rule day (w.heap.size + 1) (w.heap.size + 1 + 1) wc (own_kept hO hok.out (by omega)) e2 e3 (by omega) (by omega))
    replace hO := Lib.hid hO
    clear hkf
    replace z6 := Lib.hid z6
    go_wp2_with fail
    refine hI.out.mono ?_
    rintro e w2 ⟨rfl, hb2⟩
    obtain ⟨n2, rfl⟩ := After.of hb2
    have z2 := n2.size
    go_upto_region 3 with fail
    go_cut [14, 41] (fun s14 s41 wx => s14 = .int .i64 (placeI k rule day) ∧ s41 = .bool false ∧ wx = n2.w)
    case first =>
      unfold hit at hh
      by_cases hP : place k rule day < k.length
      · obtain ⟨x, hx⟩ : ∃ x, k[place k rule day]? = some x := ⟨_, List.getElem?_eq_getElem hP⟩
        have hpI : placeI k rule day = (place k rule day : Nat) := by unfold placeI; rw [if_pos hP]
        obtain ⟨gr, cap', e, hgr, hgr2, hcx⟩ := own_at hO.out keptL_len hx
        cases e
        have cv : wc.cell? ⟨gr, place k rule day * 26 + 2, none⟩ = some (.int .i64 x.ver) := hcx 2 _ (by unfold keptL; rw [Array.getElem?_toList, keptA_2])
        rw [hx] at hh
        have gv : (x.ver == ver) = false := by simpa using hh
        rw [hpI]
        replace hpI := Lib.hid hpI
        clear hh hcx hx
        generalize place k rule day = P at *
        go_wp2_with fail
        go_meet
        exact ⟨congrArg _ hpI.out.symm, rfl, rfl⟩
      · have hpI : placeI k rule day = -1 := by unfold placeI; rw [if_neg hP]
        rw [hpI]
        replace hpI := Lib.hid hpI
        clear hh
        go_wp2_with fail
        go_meet
        exact ⟨congrArg _ hpI.out.symm, rfl, rfl⟩
    case rest =>
      obtain ⟨rfl, rfl, rfl⟩ := hcut
      go_wp2_with fail
      have hbn : Below w.heap.size w n2.w := (hb6.trans (hbx.mono (by rw [z6.out]; omega))).trans (hb2.mono (by omega))
      refine (hRun'.out _ (hl'.out.below hbn (Nat.le_refl _) (by omega))).mono ?_
      rintro e w3 ⟨rfl, hb3⟩
      obtain ⟨n3, rfl⟩ := After.of hb3
      have z3 := n3.size
      have y9 : w.heap.size + 5 < W6.heap.size := by rw [z6.out]; omega
      by_cases ha : a = 0
      · by_cases hb0 : b = 0
        · subst ha hb0
          have hngm : (Value.slice A k.length cap).ownBlock ≠ some n3.w.heap.size := fun e => by have := (hO.out.lt _ e).2; omega
          replace hO := own_keep (own_keep hO.out hb2 (Nat.le_refl _)) hb3 (Nat.le_refl _)
          replace hB := (hB.below hb2 (by omega)).below hb3 (by omega)
          have hb9 := (hbx.trans (hb2.mono z)).trans (hb3.mono (by omega))
          clear hI e2 e3 d0 d1
          replace hO := Lib.hid hO
          go_upto_region 10 with fail
          obtain ⟨W8, hW8⟩ : ∃ W8, W8 = (((((n3.w.alloc (.cells (maskA fun _ => 0) 28)).alloc (.cells #[.int .i64 0, .int .i64 0] 31)).setRow n3.w.heap.size (maskA m)).setCell ⟨n3.w.heap.size + 1, 0, none⟩ (.int .i64 0)).setCell ⟨n3.w.heap.size + 1, 1, none⟩ (.int .i64 0)) := ⟨_, rfl⟩
          rw [← hW8]
          obtain ⟨B8, _, hb8, y8⟩ := run_kept m 0 0 W8 hW8
          replace hW8 := Lib.hid hW8
          replace hO := Lib.hid (own_keep hO.out hb8 (Nat.le_refl _))
          replace hB := hB.below hb8 (by omega)
          replace hb9 := hb9.trans (hb8.mono (by omega))
          clear hb8
          generalize n3.w.heap.size = gm at *
          have c8 := hB.cell 1
          have c8' := hB.cell 0
          simp only [List.getElem?_toArray, List.getElem?_cons_zero, List.getElem?_cons_succ] at c8 c8'
          have f8 := hB.frozen 1
          go_upto_if 80 with fail
          replace hO := Lib.hid (own_off hO.out (p := ⟨g, 1, none⟩) hne (.int .i64 (wrap64 (runs + 1))))
          replace hB := hB.set 1 (.int .i64 (wrap64 (runs + 1)))
          replace B8 := B8.far (p := ⟨g, 1, none⟩) (show gm ≠ g by omega) (.int .i64 (wrap64 (runs + 1)))
          replace hb9 := hb9.setCell (p := ⟨g, 1, none⟩) hg (.int .i64 (wrap64 (runs + 1)))
          have y8' : gm + 1 < (W8.setCell ⟨g, 1, none⟩ (.int .i64 (wrap64 (runs + 1)))).heap.size := by simp; omega
          clear c8 f8 c8'
          generalize (W8.setCell ⟨g, 1, none⟩ (.int .i64 (wrap64 (runs + 1)))) = W9 at *
          have hgmg : gm ≠ g := by omega
          replace hB : Blk W9 g 24 #[.slice A k.length cap, .int .i64 (wrap64 (runs + 1))] := hB
          go_cut [14] (fun s14 wx => Kc W6 W6.heap.size g gm (gone k rule day) (wrap64 (runs + 1)) m wx)
          case first =>
            by_cases hP : place k rule day < k.length
            · have hpI : placeI k rule day = (place k rule day : Nat) := by unfold placeI; rw [if_pos hP]
              have hgn : gone k rule day = k.take (place k rule day) ++ k.drop (place k rule day + 1) := List.eraseIdx_eq_take_drop_succ _ _
              have d0 : W9.cell? ⟨g, 0, none⟩ = some (.slice A k.length cap) := hB.cell 0
              have hD := Delete_any W6.heap.size _ k (place k rule day) (place k rule day + 1) W9 hO.out (by omega) (by omega)
              rw [← hgn] at hD
              replace hD := Lib.hid hD
              obtain ⟨k1, hk1⟩ : ∃ k1, k1 = gone k rule day := ⟨_, rfl⟩
              rw [← hk1] at hD
              replace hk1 := Lib.hid hk1
              rw [hpI]
              replace hpI := Lib.hid hpI
              replace hgn := Lib.hid hgn
              have hgl9 := hB.lt
              generalize place k rule day = P at *
              go_wp2_with fail
              refine hD.out.mono ?_
              rintro e w10 ⟨v', rfl, hg10, he10, hO10⟩
              have hend := Kc.put hB hO.out hne hngm B8 hb9 hg (by omega) hgmg hg10 hO10 (fun b hb => .inl (he10 ▸ hb))
              obtain ⟨k10, f10, hend⟩ := hend
              obtain ⟨A10, cap10, rfl⟩ := own_slice hO10
              clear hO10 hg10
              go_wp2_with fail
              go_meet
              rw [← hk1.out]
              exact hend.out
            · have hpI : placeI k rule day = -1 := by unfold placeI; rw [if_neg hP]
              have hgn : gone k rule day = k := List.eraseIdx_of_length_le (by omega)
              rw [hpI]
              replace hpI := Lib.hid hpI
              replace hgn := Lib.hid hgn
              go_wp2_with fail
              go_meet
              rw [hgn.out]
              exact ⟨_, hB, hO.out, hne, hngm, B8, hb9⟩
          case rest =>
            go_upto_region 13 with fail
            go_cut [] (fun wx => Kc W6 W6.heap.size g gm (gone k rule day ++ [⟨rule, day, ver, m⟩]) (wrap64 (runs + 1)) m wx)
            case first =>
              obtain ⟨v, hBc, hOc, hnc, hngc, hMc, hbc⟩ := hcut
              obtain ⟨A', cap', rfl⟩ := own_slice hOc
              have hkl : (gone k rule day).length ≤ k.length := by rw [gone_length]; split <;> omega
              obtain ⟨k1, hk1⟩ : ∃ k1, k1 = gone k rule day := ⟨_, rfl⟩
              rw [← hk1] at hBc hOc hnc hngc hkl
              replace hk1 := Lib.hid hk1
              have d0 : wc.cell? ⟨g, 0, none⟩ = some (.slice A' k1.length cap') := hBc.cell 0
              have e2 : wc.cell? ⟨w.heap.size + 1, 0, none⟩ = some (.int .i64 rule) := (hbc.cell (p := ⟨_, _, none⟩) (by simp; omega)).trans c2
              have e3 : wc.cell? ⟨w.heap.size + 1 + 1, 0, none⟩ = some (.int .i64 day) := (hbc.cell (p := ⟨_, _, none⟩) (by simp; omega)).trans c3
              have k8 := blk_cells hMc
              have hlay3 := lay_entry rule day ver m
              have hfit : (k1.length + 1) * 208 ≤ 140737488355328 := by omega
              have hbase : W6.heap.size ≤ wc.heap.size := hbc.size
              have hgw := hBc.lt
              have hgw2 := hMc.lt
              obtain ⟨cs, hcs⟩ : ∃ cs, cs = keptA ⟨rule, day, ver, m⟩ := ⟨_, rfl⟩
              have hsz : cs.size = 26 := by rw [hcs]; exact keptA_size _
              rw [← hcs] at hlay3
              have hlay := fun (z : Array Value) (hz : z.size = 26) => lay_any cs z 26 hsz hz
              obtain ⟨ms, hms⟩ : ∃ ms, ms = maskA m := ⟨_, rfl⟩
              rw [← hms] at k8 hlay3
              have hmz : ms.size = 23 := by rw [hms]; exact maskA_size m
              replace hms := Lib.hid hms
              replace hOc := Lib.hid hOc
              replace hfit := Lib.hid hfit
              replace hcs := Lib.hid hcs
              have hbase2 : W6.heap.size ≤ (wc.alloc (.cells cs 45)).heap.size := Nat.le_trans hbase (Below.size ((Below.refl wc.heap.size wc).alloc (Nat.le_refl _) (.cells cs 45)))
              obtain ⟨k2, hk2⟩ : ∃ k2, k2 = k1 ++ [(⟨rule, day, ver, m⟩ : Kept)] := ⟨_, rfl⟩
              clear c0 c1 c2 c3 hlen
              go_wp2_with (at_builtin; refine wpList_keep (x := ⟨rule, day, ver, m⟩) hcs.out (hOc.out.alloc _) (Blk.new wc 45 cs) hfit.out hbase2 rfl (.tmp 89) (.tmp 95) rfl rfl rfl ?_; intro nn cc w11 ho11 hg11 hn11; rw [← hk2] at ho11; obtain ⟨k11, f11, hend⟩ := Kc.append hBc hOc.out hnc hngc hMc hbc hg hbase hgmg hg11 ho11 hn11; clear ho11 hg11 hn11)
              go_meet
              rw [← hk1.out, ← hk2]
              exact hend.out
            case rest =>
              have haft : after k rule day ver m = cut (gone k rule day ++ [⟨rule, day, ver, m⟩]) := by unfold after; rw [hh]; rfl
              replace haft := Lib.hid haft
              generalize gone k rule day ++ [(⟨rule, day, ver, m⟩ : Kept)] = k2 at *
              obtain ⟨v, hBc, hOc, hnc, hngc, hMc, hbc⟩ := hcut
              obtain ⟨A', cap', rfl⟩ := own_slice hOc
              have d0 : wc.cell? ⟨g, 0, none⟩ = some (.slice A' k2.length cap') := hBc.cell 0
              have hl2 : k2.length ≤ 9223372036854775807 := own_max hOc
              replace hOc := Lib.hid hOc
              clear c0 c1 c2 c3 hlen
              have hbase : W6.heap.size ≤ wc.heap.size := hbc.size
              go_upto_if 103 with fail
              go_cut [19] (fun s19 wx => Kc W6 W6.heap.size g gm (after k rule day ver m) (wrap64 (runs + 1)) m wx)
              case first =>
                by_cases h64 : 64 < k2.length
                · have hct : cut k2 = k2.take 0 ++ k2.drop (k2.length - 64) := by unfold cut; rw [if_pos h64]; simp
                  have hD := Delete_any W6.heap.size _ k2 0 (k2.length - 64) wc hOc.out (by omega) (by omega)
                  rw [← hct, ← haft.out] at hD
                  obtain ⟨k3, hk3⟩ : ∃ k3, k3 = after k rule day ver m := ⟨_, rfl⟩
                  rw [← hk3] at hD
                  replace hk3 := Lib.hid hk3
                  replace hct := Lib.hid hct
                  obtain ⟨j, hj⟩ : ∃ j, k2.length = j + 64 := ⟨k2.length - 64, by omega⟩
                  have hjp : 0 < j := by omega
                  have g1 : decide ((0 : Int) < (j : Int)) = true := by simpa using hjp
                  have g2 : decide (0 < j) = true := by simpa using hjp
                  rw [hj] at hD d0 hBc hOc hnc hngc hl2
                  rw [Nat.add_sub_cancel] at hD
                  rw [hj]
                  replace hj := Lib.hid hj
                  replace hD := Lib.hid hD
                  clear h64
                  go_wp2_with fail
                  refine hD.out.mono ?_
                  rintro e w12 ⟨v', rfl, hg12, he12, hO12⟩
                  have hend := Kc.put (k := k2) hBc (by rw [hj.out]; exact hOc.out) hnc hngc hMc hbc hg hbase hgmg hg12 hO12 (fun b hb => .inl (he12 ▸ hb))
                  obtain ⟨k12, f12, hend⟩ := hend
                  obtain ⟨A12, cap12, rfl⟩ := own_slice hO12
                  clear hO12 hg12
                  go_wp2_with fail
                  go_meet
                  rw [← hk3.out]
                  exact hend.out
                · have hct : cut k2 = k2 := by unfold cut; rw [if_neg h64]
                  have g1 : decide ((0 : Int) < (k2.length : Int) - 64) = false := by simp; omega
                  have hle : k2.length ≤ 64 := by omega
                  replace hct := Lib.hid hct
                  go_wp2_with fail
                  go_meet
                  rw [haft.out, hct.out]
                  exact ⟨_, hBc, hOc.out, hnc, hngc, hMc, hbc⟩
              case rest =>
                obtain ⟨k3, hk3⟩ : ∃ k3, k3 = after k rule day ver m := ⟨_, rfl⟩
                rw [← hk3] at hcut
                obtain ⟨v, hBd, hOd, hnd, hngd, hMd, hbd⟩ := hcut
                obtain ⟨A3, cap3, rfl⟩ := own_slice hOd
                replace hk3 := Lib.hid hk3
                obtain ⟨nn, hnn⟩ : ∃ nn, nn = k3.length := ⟨_, rfl⟩
                rw [← hnn] at hBd hOd hnd hngd
                replace hnn := Lib.hid hnn
                rename_i wz _
                have d0 := hBd.cell 0
                have d1 := hBd.cell 1
                simp only [List.getElem?_toArray, List.getElem?_cons_zero, List.getElem?_cons_succ] at d0 d1
                have k8 := blk_cells hMd
                replace hOd := Lib.hid hOd
                have M7 := M6.below hbd (by omega)
                have K7 := K6.below hbd (by omega)
                have F7 := F6.below hbd (by omega)
                have t0 := blk_free M7
                have t1 := K7.cell 0
                have t2 := K7.cell 1
                have t3 := F7.cell 0
                have t4 := F7.cell 1
                simp only [List.getElem?_toArray, List.getElem?_cons_zero, List.getElem?_cons_succ] at t1 t2 t3 t4
                have t5 := K7.frozen 0
                have t6 := K7.frozen 1
                have t7 := F7.frozen 0
                have t8 := F7.frozen 1
                have y7b : w.heap.size + 1 + 1 + 1 + 1 + 1 < gm := by omega
                have y7c : w.heap.size + 1 + 1 + 1 + 1 + 1 < g := by omega
                clear hBc hOc hnc hngc hMc hbc hbase hl2 hb9 hB hO hne hb2 hb3 B8 hngm hbx
                go_wp2_with fail
                go_region
                all_goals
                  have E := ret_end (w := w) (m := m) (a := 0) (b := 0) (runs := wrap64 (runs + 1)) (show Blk wc.drew (w.heap.size + 1 + 1 + 1) 28 (maskA fun _ => 0) from M7) (show Blk wc.drew (w.heap.size + 1 + 1 + 1 + 1) 24 #[.slice none 0 0, .int .i64 0] from K7) (show Blk wc.drew (w.heap.size + 1 + 1 + 1 + 1 + 1) 31 #[.int .i64 0, .int .i64 0] from F7) y9 hOd.out.drew ((hb6.trans (hbd.mono (by omega))).drew) _ rfl
                  obtain ⟨r0, r1, r2, r3, r4, r5⟩ := E
                  go_wp2_with fail
                  refine bodyPost_ret (v := .tuple #[.agg (maskA m), .agg #[.slice A3 nn cap3, .int .i64 (wrap64 (runs + 1))], .agg #[.int .i64 0, .int .i64 0]]) ?_ rfl ?_
                  · simp [results, Try.results9, go_sem, r0, r1, r2, r3, r4]
                  · exact ⟨fun h => absurd rfl h, fun _ => GetPost.mk hk3.out.symm rfl hnn.out.symm r5.out.1 r5.out.2 hb6.size⟩
        · exact absurd (hab.out ha) hb0
      · have g1 : (a != 0) = true := by simpa using ha
        have M7 := (((M6.below hbx (by omega)).below hb2 (by omega)).below hb3 (by omega))
        have K7 := (((K6.below hbx (by omega)).below hb2 (by omega)).below hb3 (by omega))
        have F7 := (((F6.below hbx (by omega)).below hb2 (by omega)).below hb3 (by omega))
        go_upto_region 9 with fail
        obtain ⟨W8, hW8⟩ : ∃ W8, W8 = (((((n3.w.alloc (.cells (maskA fun _ => 0) 28)).alloc (.cells #[.int .i64 0, .int .i64 0] 31)).setRow n3.w.heap.size (maskA m)).setCell ⟨n3.w.heap.size + 1, 0, none⟩ (.int .i64 a)).setCell ⟨n3.w.heap.size + 1, 1, none⟩ (.int .i64 b)) := ⟨_, rfl⟩
        rw [← hW8]
        obtain ⟨_, B8, hb8, y8⟩ := run_kept m a b W8 hW8
        replace hW8 := Lib.hid hW8
        replace M7 := M7.below hb8 (by omega)
        replace K7 := K7.below hb8 (by omega)
        replace F7 := F7.below hb8 (by omega)
        generalize n3.w.heap.size = gm at *
        have t0 := blk_free M7
        have t1 := K7.cell 0
        have t2 := K7.cell 1
        have t3 := F7.cell 0
        have t4 := F7.cell 1
        have s0 := B8.cell 0
        have s1 := B8.cell 1
        simp only [List.getElem?_toArray, List.getElem?_cons_zero, List.getElem?_cons_succ] at t1 t2 t3 t4 s0 s1
        have t5 := K7.frozen 0
        have t6 := K7.frozen 1
        have t7 := F7.frozen 0
        have t8 := F7.frozen 1
        have y7b : w.heap.size + 1 + 1 + 1 + 1 + 1 < gm := by omega
        have hbb : Below w.heap.size w W8 := (hbn.trans (hb3.mono (by omega))).trans (hb8.mono (by omega))
        clear hI hB hO hne e2 e3 d0 d1 hb8
        go_region
        all_goals
          have E := ret_end (w := w) (m := fun _ => 0) (a := a) (b := b) (runs := 0) (show Blk W8.drew (w.heap.size + 1 + 1 + 1) 28 (maskA fun _ => 0) from M7) (show Blk W8.drew (w.heap.size + 1 + 1 + 1 + 1) 24 #[.slice none 0 0, .int .i64 0] from K7) (show Blk W8.drew (w.heap.size + 1 + 1 + 1 + 1 + 1) 31 #[.int .i64 0, .int .i64 0] from F7) y9 (World.ownsRow_nil _ _ _ _) hbb.drew _ rfl
          obtain ⟨r0, r1, r2, r3, r4, r5⟩ := E
          go_wp2_with fail
          refine bodyPost_ret (v := .tuple #[.agg (maskA fun _ => 0), .agg #[.slice none 0 0, .int .i64 0], .agg #[.int .i64 a, .int .i64 b]]) ?_ rfl ?_
          · simp [results, Try.results9, go_sem, r0, r1, r2, r3, r4]
          · exact ⟨fun _ => ⟨rfl, r5.out.2⟩, fun h => absurd h ha⟩
/-- vm.Run, the same in every world -/
theorem run_fun (codeV : Value) (l : List Vm.Code) (rule day : Int) :
    ((runErr l rule day).1 ≠ 0 ∧ ∀ W, CodesV W W.heap.size codeV l → Calls Try.prog 13 #[codeV, .int .i64 rule, .int .i64 day] W (fun e w' => e = .returned (resV noS 0 (runErr l rule day)) ∧ Below W.heap.size W w')) ∨
    (runErr l rule day = (0, 0) ∧ (wrongL l).1 = 0 ∧ ∃ m c, Ran l rule day m c ∧ 1 ≤ c ∧ c ≤ 20000 ∧ ∀ W, CodesV W W.heap.size codeV l → Calls Try.prog 13 #[codeV, .int .i64 rule, .int .i64 day] W (fun e w' => e = .returned (resV m (c : Nat) (0, 0)) ∧ Below W.heap.size W w')) := by
  by_cases h : (runErr l rule day).1 = 0
  · right
    unfold runErr at h ⊢
    split at h
    · rename_i h1; exact absurd h h1
    · split at h
      · cases h
      · split at h
        · cases h
        · rename_i h1 h2 h3
          have h1' : (wrongL l).1 = 0 := by simpa using h1
          rw [if_neg h1, if_neg h2, if_neg h3]
          obtain ⟨rn, rfl⟩ := Int.eq_ofNat_of_zero_le (show 0 ≤ rule by omega)
          obtain ⟨cd, hcd⟩ : ∃ cd, l[rn]? = some cd := ⟨_, List.getElem?_eq_getElem (by omega)⟩
          have hR := wrongL_right h1'
          obtain ⟨d, m, c, hr, hc1, hc2⟩ := hR.run (Civ.weekI day).toNat day rn cd hcd
          have hst := (hR.code cd (List.mem_of_getElem? hcd)).2.2.2.2.2.1
          exact ⟨rfl, h1', m, c, ⟨d, hr⟩, hc1, by omega, fun W hW => Run_ok codeV l rn day W hW h1' (by omega) (by omega) (by omega) m c ⟨d, hr⟩ (by omega)⟩
  · refine .inl ⟨h, fun W hW => (Run_any codeV l rule day W hW).mono fun e w' ⟨⟨m, c, he, hx⟩, hb⟩ => ?_⟩
    rcases hx with ⟨_, rfl, rfl⟩ | ⟨h0, _⟩
    · exact ⟨he, hb⟩
    · rw [h0] at h; exact absurd rfl h
/-- cache.Get -/
theorem Get_any (kv codeV : Value) (k : List Kept) (l : List Vm.Code) (runs ver rule day : Int) (w : World) (hk : KeptV w w.heap.size kv k) (hlen : (k.length + 1) * 208 ≤ 140737488355328) (hl : CodesV w w.heap.size codeV l) :
    Calls Try.prog 9 #[.agg #[kv, .int .i64 runs], codeV, .int .i64 ver, .int .i64 rule, .int .i64 day] w fun e w' =>
      (hit k rule day ver = true ∧ GetPost w (after k rule day ver fun _ => 0) runs (hitMask k rule day) e w') ∨
      (hit k rule day ver = false ∧ ((runErr l rule day).1 ≠ 0 ∧ e = .returned (.tuple #[.agg (maskA fun _ => 0), .agg #[.slice none 0 0, .int .i64 0], faultV (runErr l rule day)]) ∧ Below w.heap.size w w' ∨
        runErr l rule day = (0, 0) ∧ ∃ m c, Ran l rule day m c ∧ GetPost w (after k rule day ver (setW m)) (wrap64 (runs + 1)) (setW m) e w')) := by
  by_cases hh : hit k rule day ver = true
  · exact (Get_hit kv codeV k l runs ver rule day w hk hlen hl hh).mono fun e w' h => .inl ⟨hh, h⟩
  · replace hh : hit k rule day ver = false := by simpa using hh
    rcases run_fun codeV l rule day with ⟨h1, h2⟩ | ⟨h1, _, m, c, h2, _, _, h3⟩
    · refine (Get_miss kv codeV k l runs ver rule day w hk hlen hl hh (fun _ => 0) 0 (runErr l rule day).1 (runErr l rule day).2 (fun h => absurd h h1) (fun W hW => (h2 W hW).mono fun e w' ⟨he, hb⟩ => ⟨?_, hb⟩)).mono fun e w' h => .inr ⟨hh, .inl ⟨h1, (h.1 h1).1, (h.1 h1).2⟩⟩
      rw [he]
      unfold resV
      rw [setA_noS]
      rfl
    · exact (Get_miss kv codeV k l runs ver rule day w hk hlen hl hh (setW m) (c : Nat) 0 0 (fun _ => rfl) h3).mono fun e w' h => .inr ⟨hh, .inr ⟨h1, m, c, h2, h.2 rfl⟩⟩
end Kp
end Go.Proofs.Ythdaeddaofickaa
