/- cache.Get at a cache that was made by it, over code that stays the same. -/
import Derived.Test.YthdaeddaofickaaKpM
namespace Go.Proofs.Ythdaeddaofickaa
open Go.RowKit
namespace Kp
open Msk Sl Vm

/-- what the machine says -/
def Said (l : List Vm.Code) (rule day : Int) (m : Nat → Nat) : Prop := runErr l rule day = (0, 0) ∧ ∃ p c, Ran l rule day p c ∧ m = setW p
/-- a cache that was made by asking -/
def Made (l : List Vm.Code) (k : List Kept) : Prop := Once k ∧ Right (Said l) k
theorem Made.nil (l : List Vm.Code) : Made l [] := ⟨⟨by simp, by simp⟩, fun x hx => by simp at hx⟩
theorem Made.after {l : List Vm.Code} {k : List Kept} (h : Made l k) {rule day : Int} {p : Nat → Bool} {c : Nat} (h0 : runErr l rule day = (0, 0)) (hr : Ran l rule day p c) (ver : Int) : Made l (Kp.after k rule day ver (setW p)) :=
  ⟨once_after h.1 _ _ _ _, right_after h.2 ⟨h0, p, c, hr, rfl⟩⟩
theorem Made.ok {l : List Vm.Code} {k : List Kept} (h : Made l k) : ∀ x ∈ k, okW x.mask := fun x hx => by
  obtain ⟨_, p, c, _, e⟩ := h.2 x hx
  rw [e]
  exact fun i _ => setW_lt p i
/-- how often the machine ran then -/
def runsThen (k : List Kept) (runs rule day ver : Int) : Int := if hit k rule day ver = true then runs else wrap64 (runs + 1)

theorem hit_mem {k : List Kept} {rule day ver : Int} (h : hit k rule day ver = true) : ∃ x ∈ k, x.rule = rule ∧ x.day = day ∧ hitMask k rule day = x.mask := by
  unfold hit at h
  split at h
  · rename_i x hx
    refine ⟨x, List.mem_of_getElem? hx, (place_key hx).1, (place_key hx).2, ?_⟩
    unfold hitMask
    rw [hx]
    rfl
  · cases h
theorem post_kept {w w' : World} {v : Value} {k : List Kept} (ho : w'.ownsRow w.heap.size 45 26 v k.length (k.flatMap keptL)) (hok : ∀ x ∈ k, okW x.mask) : KeptV w' w'.heap.size v k := own_kept ho hok (own_max ho)

/-- a store elsewhere -/
theorem KeptV.far {w : World} {B : Nat} {v : Value} {k : List Kept} (h : KeptV w B v k) {p : Addr} (hp : v.ownBlock ≠ some p.block) (u : Value) : KeptV (w.setCell p u) B v k := by
  obtain ⟨A, cap, rfl, hl, hc⟩ := h
  refine ⟨A, cap, rfl, hl, fun i x hx => ?_⟩
  obtain ⟨b, o, rfl, hb, h1, h2⟩ := hc i x hx
  exact ⟨b, o, rfl, hb, (cellsAt_congr fun j _ => World.cell?_of_block (Below.heap_setCell w p u b (fun e => hp (by rw [← e]; rfl)))).trans h1, h2⟩

theorem Get_good (kv codeV : Value) (k : List Kept) (l : List Vm.Code) (runs ver rule day : Int) (w : World) (hk : KeptV w w.heap.size kv k) (hm : Made l k) (hl : CodesV w w.heap.size codeV l) (h0 : runErr l rule day = (0, 0)) (p : Nat → Bool) (c : Nat) (hr : Ran l rule day p c) :
    Calls Try.prog 9 #[.agg #[kv, .int .i64 runs], codeV, .int .i64 ver, .int .i64 rule, .int .i64 day] w fun e w' =>
      ∃ v, e = .returned (.tuple #[.agg (maskA (setW p)), .agg #[v, .int .i64 (runsThen k runs rule day ver)], .agg #[.int .i64 0, .int .i64 0]]) ∧ Below w.heap.size w w' ∧ KeptV w' w'.heap.size v (Kp.after k rule day ver (setW p)) ∧ ∀ g, v.ownBlock = some g → w.heap.size ≤ g := by
  have hlen := hm.1.2
  have hm' := hm.after h0 hr ver
  refine (Get_any kv codeV k l runs ver rule day w hk (by omega) hl).mono fun e w' h => ?_
  unfold runsThen
  rcases h with ⟨hh, v, he, hb, ho⟩ | ⟨hh, ⟨h1, _⟩ | ⟨_, m, c', hr', v, he, hb, ho⟩⟩
  · obtain ⟨x, hx, e1, e2, e3⟩ := hit_mem hh
    obtain ⟨_, q, c', hr', e4⟩ := hm.2 x hx
    rw [e1, e2] at hr'
    obtain ⟨rfl, _⟩ := hr.unique hr'
    have e5 : Kp.after k rule day ver (setW p) = Kp.after k rule day ver fun _ => 0 := by unfold Kp.after; rw [if_pos hh, if_pos hh]
    rw [if_pos hh]
    refine ⟨v, ?_, hb, ?_, fun g hg => (ho.lt g hg).1⟩
    · rw [he, e3, e4]
    · rw [e5] at hm' ⊢; exact post_kept ho hm'.ok
  · rw [h0] at h1; exact absurd rfl h1
  · obtain ⟨rfl, _⟩ := hr.unique hr'
    rw [hh]
    exact ⟨v, he, hb, post_kept ho hm'.ok, fun g hg => (ho.lt g hg).1⟩

theorem Get_bad (kv codeV : Value) (k : List Kept) (l : List Vm.Code) (runs ver rule day : Int) (w : World) (hk : KeptV w w.heap.size kv k) (hm : Made l k) (hl : CodesV w w.heap.size codeV l) (h0 : (runErr l rule day).1 ≠ 0) :
    Calls Try.prog 9 #[.agg #[kv, .int .i64 runs], codeV, .int .i64 ver, .int .i64 rule, .int .i64 day] w fun e w' =>
      e = .returned (.tuple #[.agg (maskA fun _ => 0), .agg #[.slice none 0 0, .int .i64 0], .agg #[.int .i64 (runErr l rule day).1, .int .i64 (runErr l rule day).2]]) ∧ Below w.heap.size w w' := by
  have hlen := hm.1.2
  refine (Get_any kv codeV k l runs ver rule day w hk (by omega) hl).mono fun e w' h => ?_
  rcases h with ⟨hh, _⟩ | ⟨hh, ⟨_, he, hb⟩ | ⟨h1, _⟩⟩
  · obtain ⟨x, hx, e1, e2, e3⟩ := hit_mem hh
    obtain ⟨h1, _⟩ := hm.2 x hx
    rw [e1, e2] at h1
    rw [h1] at h0
    exact absurd rfl h0
  · exact ⟨he, hb⟩
  · rw [h1] at h0; exact absurd rfl h0
/-- the machine says something wherever nothing is wrong -/
theorem run_tot {l : List Vm.Code} {rule day : Int} (h0 : runErr l rule day = (0, 0)) : ∃ p c, Ran l rule day p c ∧ 1 ≤ c ∧ c ≤ 20000 := by
  rcases run_fun (.slice none 0 0) l rule day with ⟨h1, _⟩ | ⟨_, _, p, c, h2, h3, h4, _⟩
  · rw [h0] at h1; exact absurd rfl h1
  · exact ⟨p, c, h2, h3, h4⟩

/-- Get's answer, stored into three new blocks -/
theorem got_store {V : World} (m : Nat → Nat) (v : Value) (r a b : Int) (W : World) (hW : W = ((((((((V.alloc (.cells (maskA fun _ => 0) 28)).alloc (.cells #[.slice none 0 0, .int .i64 0] 24)).alloc (.cells #[.int .i64 0, .int .i64 0] 31)).setRow V.heap.size (maskA m)).setCell ⟨V.heap.size + 1, 0, none⟩ v).setCell ⟨V.heap.size + 1, 1, none⟩ (.int .i64 r)).setCell ⟨V.heap.size + 1 + 1, 0, none⟩ (.int .i64 a)).setCell ⟨V.heap.size + 1 + 1, 1, none⟩ (.int .i64 b))) :
    Blk W V.heap.size 28 (maskA m) ∧ Blk W (V.heap.size + 1) 24 #[v, .int .i64 r] ∧ Blk W (V.heap.size + 1 + 1) 31 #[.int .i64 a, .int .i64 b] ∧ Below V.heap.size V W ∧ V.heap.size + 2 < W.heap.size := by
  subst hW
  have h1 := ((((((((Blk.new V 28 (maskA fun _ => 0)).alloc (.cells #[.slice none 0 0, .int .i64 0] 24)).alloc (.cells #[.int .i64 0, .int .i64 0] 31)).setRow (maskA m)).far (p := ⟨V.heap.size + 1, 0, none⟩) (by simp) v).far (p := ⟨V.heap.size + 1, 1, none⟩) (by simp) (.int .i64 r)).far (p := ⟨V.heap.size + 1 + 1, 0, none⟩) (by first | (simp; done) | (simp; omega) | omega) (.int .i64 a)).far (p := ⟨V.heap.size + 1 + 1, 1, none⟩) (by first | (simp; done) | (simp; omega) | omega) (.int .i64 b))
  have h2 := (Blk.new (V.alloc (.cells (maskA fun _ => 0) 28)) 24 #[.slice none 0 0, .int .i64 0]).alloc (.cells #[.int .i64 0, .int .i64 0] 31)
  rw [World.size_alloc] at h2
  have h3 := Blk.new ((V.alloc (.cells (maskA fun _ => 0) 28)).alloc (.cells #[.slice none 0 0, .int .i64 0] 24)) 31 #[.int .i64 0, .int .i64 0]
  rw [World.size_alloc, World.size_alloc] at h3
  have h4 := ((((h2.farRow (k := V.heap.size) (by omega) (maskA m)).set 0 v).set 1 (.int .i64 r)).far (p := ⟨V.heap.size + 1 + 1, 0, none⟩) (by first | (simp; done) | (simp; omega) | omega) (.int .i64 a)).far (p := ⟨V.heap.size + 1 + 1, 1, none⟩) (by first | (simp; done) | (simp; omega) | omega) (.int .i64 b)
  have h5 := ((((h3.farRow (k := V.heap.size) (by omega) (maskA m)).far (p := ⟨V.heap.size + 1, 0, none⟩) (by first | (simp; done) | (simp; omega) | omega) v).far (p := ⟨V.heap.size + 1, 1, none⟩) (by first | (simp; done) | (simp; omega) | omega) (.int .i64 r)).set 0 (.int .i64 a)).set 1 (.int .i64 b)
  exact ⟨h1, h4, h5, (((((Below.setRow ((((Below.refl _ V).alloc (Nat.le_refl _) _).alloc (by first | (simp; done) | (simp; omega)) _).alloc (by first | (simp; done) | (simp; omega)) _) (Nat.le_refl _) _).setCell (p := ⟨_, _, none⟩) (by first | (simp; done) | (simp; omega)) _).setCell (p := ⟨_, _, none⟩) (by first | (simp; done) | (simp; omega)) _).setCell (p := ⟨_, _, none⟩) (by first | (simp; done) | (simp; omega)) _).setCell (p := ⟨_, _, none⟩) (by first | (simp; done) | (simp; omega)) _), by simp⟩

end Kp
end Go.Proofs.Ythdaeddaofickaa
