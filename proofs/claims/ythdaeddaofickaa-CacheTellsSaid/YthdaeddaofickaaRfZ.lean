/- The document's machine with frames, plainly: it comes to what the machine's run comes to. No walk. What slotref7.Run keeps: a stack of masks and a row of frames, two rows of its own. No walk but Week's. The document's machine with frames: what stays true from turn to turn; appends to its two rows. No walk. -/
import Derived.Test.YthdaeddaofickaaVm
import Derived.Test.YthdaeddaofickaaVmM
import Derived.Test.YthdaeddaofickaaWk
import Derived.Test.YthdaeddaofickaaRef2S
import Derived.Deep.MidRow
import Derived.Test.YthdaeddaofickaaVmQ
import Derived.Test.YthdaeddaofickaaVmX
namespace Go.Proofs.Ythdaeddaofickaa
namespace Vm
open Msk

/-- frames (the last one first), the stack (its top first), steps -/
structure Fs where
  fr : List (Int × Nat)
  st : List (Nat → Bool)
  n : Nat

def insAt (l : List Code) (r : Int) : List Ins := ((l[r.toNat]?).map Code.ins).getD []
/-- one turn of the loop -/
def fStep (l : List Code) (wd : Nat) (day : Int) (s : Fs) : Option Fs :=
  match s.fr with
  | [] => none
  | (r, i) :: fs =>
    match (insAt l r)[i]? with
    | none => some ⟨fs, s.st, s.n⟩
    | some x =>
      if x.op = 8 then some ⟨(x.a, 0) :: (r, i + 1) :: fs, s.st, s.n + 1⟩
      else match nextI wd day (fun _ => none) x i s.st with
        | none => none
        | some (i', st', n') => some ⟨(r, i') :: fs, st', s.n + n'⟩
def fRun (l : List Code) (wd : Nat) (day : Int) : Nat → Fs → Option Fs
  | 0, _ => none
  | k + 1, s => match s.fr with
    | [] => some s
    | _ :: _ => match fStep l wd day s with
      | none => none
      | some s' => fRun l wd day k s'
theorem fRun_step {l : List Code} {wd k : Nat} {day : Int} {s s' : Fs} (h : fStep l wd day s = some s') : fRun l wd day (k + 1) s = fRun l wd day k s' := by
  unfold fStep at h
  rw [fRun]
  split
  · rename_i e; rw [e] at h; cases h
  · rename_i e
    have : fStep l wd day s = some s' := by unfold fStep; exact h
    rw [this]

/-- what lies deeper on the stack is no matter -/
theorem twoS_deep {f : (Nat → Bool) → (Nat → Bool) → Nat → Bool} {i i' n : Nat} {st st' S : List (Nat → Bool)} (h : twoS f i st = some (i', st', n)) : twoS f i (st ++ S) = some (i', st' ++ S, n) := by
  match st, h with
  | b :: a :: r, h => simp [twoS] at h ⊢; obtain ⟨rfl, rfl, rfl⟩ := h; simp
theorem nextI_deep {wd : Nat} {day : Int} {call : Int → Option ((Nat → Bool) × Nat)} {x : Ins} {i i' n : Nat} {st st' S : List (Nat → Bool)} (h : nextI wd day call x i st = some (i', st', n)) : nextI wd day call x i (st ++ S) = some (i', st' ++ S, n) := by
  unfold nextI at h ⊢
  split
  · rename_i e
    rw [if_pos e] at h; cases h; rfl
  · rename_i e; rw [if_neg e] at h
    split
    · rename_i e; rw [if_pos e] at h; exact twoS_deep h
    · rename_i e; rw [if_neg e] at h
      split
      · rename_i e; rw [if_pos e] at h; exact twoS_deep h
      · rename_i e; rw [if_neg e] at h
        split
        · rename_i e; rw [if_pos e] at h; exact twoS_deep h
        · rename_i e; rw [if_neg e] at h
          split
          · rename_i e; rw [if_pos e] at h
            match st, h with
            | a :: r, h => simp at h ⊢; obtain ⟨rfl, rfl, rfl⟩ := h; simp
          · rename_i e; rw [if_neg e] at h
            split
            · rename_i e; rw [if_pos e] at h
              split at h
              · rename_i m c hm; cases h; rfl
              · cases h
            · rename_i e; rw [if_neg e] at h
              split
              · rename_i e; rw [if_pos e] at h; cases h; rfl
              · rename_i e; rw [if_neg e] at h; cases h; rfl
theorem nextI_call {wd : Nat} {day : Int} {call call' : Int → Option ((Nat → Bool) × Nat)} {x : Ins} {i : Nat} {st : List (Nat → Bool)} (h : x.op ≠ 8) : nextI wd day call x i st = nextI wd day call' x i st := by
  unfold nextI
  simp only [if_neg h]

theorem run_frames (l : List Code) (wd : Nat) (day : Int) : ∀ (d : Nat) (r : Int) (m : Nat → Bool) (n : Nat), runR l wd day d r = some (m, n) → ∃ k0, ∀ k fs S st, fRun l wd day (k0 + k) ⟨(r, 0) :: fs, S, st⟩ = fRun l wd day k ⟨fs, m :: S, st + n⟩ := by
  intro d
  induction d with
  | zero => intro r m n h; cases h
  | succ d ih =>
    intro r m n h
    rw [runR] at h
    cases hc : l[r.toNat]? with
    | none => rw [hc] at h; cases h
    | some c =>
      rw [hc] at h
      simp only at h
      have hins : insAt l r = c.ins := by unfold insAt; rw [hc]; rfl
      have key : ∀ (f i : Nat) (st : List (Nat → Bool)) (n0 : Nat) (st' : List (Nat → Bool)) (n1 : Nat), runIns wd day (runR l wd day d) c.ins f i st n0 = some (st', n1) →
          ∃ k0 dn, n1 = n0 + dn ∧ ∀ k fs S q, fRun l wd day (k0 + k) ⟨(r, i) :: fs, st ++ S, q⟩ = fRun l wd day k ⟨fs, st' ++ S, q + dn⟩ := by
        intro f
        induction f with
        | zero => intro i st n0 st' n1 h; cases h
        | succ f ihf =>
          intro i st n0 st' n1 h
          rw [runIns] at h
          cases hx : c.ins[i]? with
          | none =>
            rw [hx] at h
            cases h
            refine ⟨1, 0, rfl, fun k fs S q => ?_⟩
            rw [Nat.add_comm 1 k]
            exact fRun_step (by unfold fStep; simp only [hins, hx]; rfl)
          | some x =>
            rw [hx] at h
            simp only at h
            cases hn : nextI wd day (runR l wd day d) x i st with
            | none => rw [hn] at h; cases h
            | some p =>
              obtain ⟨i', st2, n'⟩ := p
              rw [hn] at h
              obtain ⟨k1, dn, e1, h1⟩ := ihf i' st2 _ st' n1 h
              by_cases h8 : x.op = 8
              · unfold nextI at hn
                rw [if_neg (by omega), if_neg (by omega), if_neg (by omega), if_neg (by omega), if_neg (by omega), if_pos h8] at hn
                cases hr : runR l wd day d x.a with
                | none => rw [hr] at hn; cases hn
                | some p =>
                  obtain ⟨m2, c2⟩ := p
                  rw [hr] at hn
                  cases hn
                  obtain ⟨k2, h2⟩ := ih x.a m2 c2 hr
                  refine ⟨k2 + k1 + 1, c2 + 1 + dn, by omega, fun k fs S q => ?_⟩
                  rw [show k2 + k1 + 1 + k = (k2 + (k1 + k)) + 1 by omega, fRun_step (s' := ⟨(x.a, 0) :: (r, i + 1) :: fs, st ++ S, q + 1⟩) (by unfold fStep; simp only [hins, hx]; rw [if_pos h8]), h2]
                  have := h1 k fs S (q + 1 + c2)
                  rw [List.cons_append] at this
                  rw [this, show q + 1 + c2 + dn = q + (c2 + 1 + dn) by omega]
              · refine ⟨k1 + 1, n' + dn, by omega, fun k fs S q => ?_⟩
                have hn2 := nextI_deep (S := S) hn
                rw [nextI_call (call' := fun _ => none) h8] at hn2
                rw [show k1 + 1 + k = (k1 + k) + 1 by omega, fRun_step (s' := ⟨(r, i') :: fs, st2 ++ S, q + n'⟩) (by unfold fStep; simp only [hins, hx]; rw [if_neg h8, hn2]), h1, show q + n' + dn = q + (n' + dn) by omega]
      split at h
      · rename_i m' n' hr
        cases h
        obtain ⟨k0, dn, e1, h1⟩ := key _ _ _ _ _ _ hr
        refine ⟨k0, fun k fs S st => ?_⟩
        have := h1 k fs S st
        rw [show dn = n by omega] at this
        exact this
      · cases h

end Vm
end Go.Proofs.Ythdaeddaofickaa

namespace Go.Proofs.Ythdaeddaofickaa
open Go.RowKit
namespace Vm
open Msk Sl

theorem el_frame : El Try.prog 68 67 2 16 := El.mk' Try.underlying68 (by kernel_rfl) (by omega)
def frL (x : Int × Nat) : List Value := [.int .i64 x.1, .int .i64 x.2]
theorem frLs_len (F : List (Int × Nat)) : (F.flatMap frL).length = F.length * 2 := by
  induction F with
  | nil => rfl
  | cons p F ih => rw [List.flatMap_cons, List.length_append, ih, List.length_cons]; show 2 + F.length * 2 = _; omega

theorem own_heap2 {w w' : World} {base e s n : Nat} {v : Value} {xs : List Value} (h : w.ownsRow base e s v n xs) (hh : ∀ g, v.ownBlock = some g → w'.heap[g]? = w.heap[g]?) : w'.ownsRow base e s v n xs := by
  refine ⟨h.1, ?_⟩
  rcases h.2 with h0 | ⟨g, cap, cur, h1, h2, h3, h4⟩
  · exact .inl h0
  · exact .inr ⟨g, cap, cur, h1, h2, by rw [hh g (by rw [h1]; rfl)]; exact h3, h4⟩
/-- the first m of n -/
theorem own_take {w : World} {base e s g cap n m : Nat} {xs ys : List Value} (hx : xs.length = m * s) (hm : m ≤ n) (h : w.ownsRow base e s (.slice (some ⟨g, 0, none⟩) n cap) n (xs ++ ys)) : w.ownsRow base e s (.slice (some ⟨g, 0, none⟩) m cap) m xs := by
  obtain ⟨_, h2⟩ := h
  rcases h2 with ⟨h0, _⟩ | ⟨g', cap', cur, hv, hg, hh, hn, hcap, hsz, htake⟩
  · cases h0
  · cases hv
    refine ⟨hx, .inr ⟨g, cap, cur, rfl, hg, hh, by omega, hcap, hsz, ?_⟩⟩
    have h3 : (cur.toList.take (n * s)).take (m * s) = (xs ++ ys).take (m * s) := by rw [htake]
    rw [List.take_take, Nat.min_eq_left (Nat.mul_le_mul_right _ hm)] at h3
    rw [h3, ← hx, List.take_left]

/-- two rows: masks, frames -/
structure RunB (w : World) (B : Nat) (v1 v2 : Value) (S : List (Nat → Bool)) (F : List (Int × Nat)) : Prop where
  o1 : w.ownsRow B 28 23 v1 S.length (S.flatMap maskL)
  o2 : w.ownsRow B 67 2 v2 F.length (F.flatMap frL)
  ne : ∀ g, v1.ownBlock = some g → v2.ownBlock ≠ some g

section
variable {w w' : World} {B : Nat} {v1 v2 : Value} {S : List (Nat → Bool)} {F : List (Int × Nat)}
theorem RunB.below (h : RunB w B v1 v2 S F) {B' : Nat} (hb : Below B' w w') (hB : w.heap.size ≤ B') : RunB w' B v1 v2 S F :=
  ⟨own_keep h.o1 hb hB, own_keep h.o2 hb hB, h.ne⟩
theorem RunB.far (h : RunB w B v1 v2 S F) {p : Addr} (hp : p.block < B) (u : Value) : RunB (w.setCell p u) B v1 v2 S F :=
  ⟨own_far h.o1 hp u, own_far h.o2 hp u, h.ne⟩
theorem RunB.le (h : RunB w B v1 v2 S F) (h2 : F ≠ []) : B < w.heap.size := by
  obtain ⟨g, cap, _, h3, h4⟩ := h.o2.form (List.length_pos_iff.2 h2)
  omega
/-- the last frame -/
theorem RunB.top {F0 : List (Int × Nat)} {r : Int} {i : Nat} (h : RunB w B v1 v2 S (F0 ++ [(r, i)])) : ∃ g cap, v2 = .slice (some ⟨g, 0, none⟩) (F0.length + 1) cap ∧ B ≤ g ∧ g < w.heap.size ∧ F0.length + 1 ≤ cap ∧ cap ≤ 9223372036854775807 ∧
    w.cell? ⟨g, F0.length * 2, none⟩ = some (.int .i64 r) ∧ w.cell? ⟨g, F0.length * 2 + 1, none⟩ = some (.int .i64 i) ∧ w.frozen? ⟨g, F0.length * 2 + 1, none⟩ = false := by
  have ho := h.o2
  have hl : (F0 ++ [(r, i)]).length = F0.length + 1 := by simp
  rw [hl] at ho
  rcases ho.2 with ⟨_, h0⟩ | ⟨g, cap, cur, rfl, hbg, hg, hc, hcm, hcs, ht⟩
  · omega
  · have hat : ∀ j u, (frL (r, i))[j]? = some u → w.cell? ⟨g, F0.length * 2 + j, none⟩ = some u := fun j u hu => by
      have := ho.cellAt (F0.length * 2 + j) (by have := (List.getElem?_eq_some_iff.1 hu).1; simp [frL] at this; omega)
      rw [this, List.flatMap_append, List.getElem?_append_right (by rw [frLs_len]; omega), frLs_len, Nat.add_sub_cancel_left]
      simpa using hu
    refine ⟨g, cap, rfl, hbg, (Array.getElem?_eq_some_iff.1 hg).1, hc, hcm, hat 0 _ rfl, hat 1 _ rfl, ?_⟩
    simp [World.frozen?, hg]
/-- where it goes on is stored -/
theorem RunB.go {F0 : List (Int × Nat)} {r : Int} {i g cap : Nat} (h : RunB w B v1 (.slice (some ⟨g, 0, none⟩) (F0.length + 1) cap) S (F0 ++ [(r, i)])) (j : Nat) :
    RunB (w.setCell ⟨g, F0.length * 2 + 1, none⟩ (.int .i64 j)) B v1 (.slice (some ⟨g, 0, none⟩) (F0.length + 1) cap) S (F0 ++ [(r, j)]) := by
  have ho := h.o2
  refine ⟨own_heap2 h.o1 fun k hk => Below.heap_setCell w _ _ k fun e => h.ne k hk (by rw [e]; rfl), ?_, h.ne⟩
  refine ⟨by rw [frLs_len], ?_⟩
  rcases ho.2 with ⟨h0, _⟩ | ⟨g', cap', cur, hv, hbg, hg, hc, hcm, hcs, ht⟩
  · cases h0
  · have e1 : (F0 ++ [(r, i)]).length = F0.length + 1 := by simp
    have e2 : (F0 ++ [(r, j)]).length = F0.length + 1 := by simp
    rw [e1] at hv hc ht
    rw [e2]
    cases hv
    have hS : Blk (w.setCell ⟨g, F0.length * 2 + 1, none⟩ (.int .i64 j)) g 67 (cur.setIfInBounds (F0.length * 2 + 1) (.int .i64 j)) := Blk.set (h := hg) _ _
    refine .inr ⟨g, cap, _, rfl, hbg, hS, hc, hcm, by simpa using hcs, ?_⟩
    have hcl : F0.length * 2 + 1 < cur.toList.length := by simp only [Array.length_toList]; omega
    rw [Array.toList_setIfInBounds]
    apply List.ext_getElem?
    intro k
    have hk := congrArg (fun l => l[k]?) ht
    simp only [List.getElem?_take] at hk
    rw [List.flatMap_append] at hk ⊢
    rw [List.getElem?_take]
    by_cases hk1 : k < (F0.length + 1) * 2
    · rw [if_pos hk1] at hk ⊢
      rw [List.getElem?_set]
      by_cases hk2 : k < F0.length * 2
      · rw [if_neg (by omega), hk, List.getElem?_append_left (by rw [frLs_len]; exact hk2), List.getElem?_append_left (by rw [frLs_len]; exact hk2)]
      · rw [List.getElem?_append_right (by rw [frLs_len]; omega), frLs_len] at hk ⊢
        by_cases hk3 : k = F0.length * 2
        · subst hk3
          rw [if_neg (by omega), hk, Nat.sub_self]
          rfl
        · obtain rfl : k = F0.length * 2 + 1 := by omega
          rw [if_pos rfl, if_pos hcl, Nat.add_sub_cancel_left]
          rfl
    · rw [if_neg hk1, List.getElem?_eq_none (by rw [List.length_append, frLs_len, List.flatMap_singleton]; show F0.length * 2 + 2 ≤ k; omega)]
theorem RunB.popF {F0 : List (Int × Nat)} {x : Int × Nat} {g cap : Nat} (h : RunB w B v1 (.slice (some ⟨g, 0, none⟩) (F0.length + 1) cap) S (F0 ++ [x])) : RunB w B v1 (.slice (some ⟨g, 0, none⟩) F0.length cap) S F0 := by
  have ho := h.o2
  rw [List.length_append, List.length_singleton, List.flatMap_append] at ho
  exact ⟨h.o1, own_take (frLs_len F0) (Nat.le_succ _) ho, h.ne⟩
theorem RunB.popM {S0 T : List (Nat → Bool)} {g cap n : Nat} (h : RunB w B (.slice (some ⟨g, 0, none⟩) n cap) v2 (S0 ++ T) F) (hn : n = (S0 ++ T).length) : RunB w B (.slice (some ⟨g, 0, none⟩) S0.length cap) v2 S0 F := by
  have ho := h.o1
  rw [List.flatMap_append, ← hn] at ho
  exact ⟨own_take (maskLs_len S0) (by rw [hn, List.length_append]; omega) ho, h.o2, h.ne⟩
/-- what the stack's value looks like; its masks -/
theorem RunB.mask (h : RunB w B v1 v2 S F) (hS : S ≠ []) : ∃ g cap, v1 = .slice (some ⟨g, 0, none⟩) S.length cap ∧ B ≤ g ∧ g < w.heap.size ∧ S.length ≤ cap ∧ cap ≤ 9223372036854775807 ∧ (∀ i p, S[i]? = some p → cellsAt w g (i * 23) 23 = some (setA p)) := by
  have ho := h.o1
  have hp := List.length_pos_iff.2 hS
  rcases ho.2 with ⟨_, h0⟩ | ⟨g, cap, cur, rfl, hbg, hg, hc, hcm, hcs, ht⟩
  · omega
  · refine ⟨g, cap, rfl, hbg, (Array.getElem?_eq_some_iff.1 hg).1, hc, hcm, fun i p hi => ?_⟩
    obtain ⟨g', cap', e, _, _, hat⟩ := own_at ho (fun p => maskL_len p) hi
    cases e
    refine cellsAt_some.2 ⟨maskA_size _, fun j hj => ?_⟩
    have hj2 : j < (setA p).size := by unfold setA; rw [maskA_size]; exact hj
    rw [hat j ((setA p)[j]) (by unfold maskL; rw [Array.getElem?_toList, Array.getElem?_eq_getElem hj2]), Array.getElem?_eq_getElem hj2]
/-- behind an append to the frames -/
theorem RunB.pushF {g cap : Nat} {x : Int × Nat} {v2' : Value} (h : RunB w B v1 v2 S F) (hv : v2' = .slice (some ⟨g, 0, none⟩) (F.length + 1) cap) (ho : w'.ownsRow B 67 2 v2' (F.length + 1) (F.flatMap frL ++ frL x)) (hg : w.grownBy w' v2.ownBlock) (ha : v2.ownBlock = some g ∨ w.heap.size ≤ g) : RunB w' B v1 v2' S (F ++ [x]) := by
  refine ⟨own_heap2 h.o1 fun k hk => hg.block k (h.o1.lt k hk).2 fun e => h.ne k hk e.symm, by simpa using ho, fun k hk e => ?_⟩
  subst hv
  cases e
  rcases ha with ha | ha
  · exact h.ne _ hk ha
  · have : g < w.heap.size := (h.o1.lt _ hk).2
    omega
/-- behind an append to the stack -/
theorem RunB.pushM {g cap : Nat} {p : Nat → Bool} {v1' : Value} (h : RunB w B v1 v2 S F) (hv : v1' = .slice (some ⟨g, 0, none⟩) (S.length + 1) cap) (ho : w'.ownsRow B 28 23 v1' (S.length + 1) (S.flatMap maskL ++ maskL p)) (hg : w.grownBy w' v1.ownBlock) (ha : v1.ownBlock = some g ∨ w.heap.size ≤ g) : RunB w' B v1' v2 (S ++ [p]) F := by
  refine ⟨by simpa using ho, own_heap2 h.o2 fun k hk => hg.block k (h.o2.lt k hk).2 fun e => h.ne k e.symm hk, fun k hk e => ?_⟩
  subst hv
  cases hk
  rcases ha with ha | ha
  · exact h.ne _ ha e
  · have : g < w.heap.size := (h.o2.lt _ e).2
    omega

theorem setCells_heap (b : Nat) : ∀ (vs : List Value) (o : Nat) (w : World) (C : Array Value) (t : TypeId), w.heap[b]? = some (.cells C t (0, 0)) → ∃ C', (w.setCells b o vs).heap[b]? = some (.cells C' t (0, 0)) ∧ C'.size = C.size ∧ (∀ k, k < o ∨ o + vs.length ≤ k → C'[k]? = C[k]?) ∧ ∀ j, o + j < C.size → j < vs.length → C'[o + j]? = vs[j]?
  | [], _, _, C, _, h => ⟨C, h, rfl, fun _ _ => rfl, fun j _ hj => by simp at hj⟩
  | v :: r, o, w, C, t, h => by
    obtain ⟨C', h1, h2, h3, h4⟩ := setCells_heap b r (o + 1) (w.setCell ⟨b, o, none⟩ v) _ t (show (w.setCell ⟨b, o, none⟩ v).heap[b]? = _ from Blk.set (h := h) o v)
    refine ⟨C', h1, by simpa using h2, fun k hk => ?_, fun j hj hjl => ?_⟩
    · rw [List.length_cons] at hk
      rw [h3 k (by omega), Array.getElem?_setIfInBounds, if_neg (by omega)]
    · cases j with
      | zero =>
        rw [h3 (o + 0) (by omega), Array.getElem?_setIfInBounds, if_pos (by omega), if_pos (by omega)]
        rfl
      | succ j =>
        have := h4 j (by simp; omega) (by simpa using hjl)
        rw [show o + (j + 1) = o + 1 + j by omega, this]
        rfl
theorem setCells_other (b : Nat) : ∀ (vs : List Value) (o : Nat) (w : World) (k : Nat), k ≠ b → (w.setCells b o vs).heap[k]? = w.heap[k]?
  | [], _, _, _, _ => rfl
  | v :: r, o, w, k, h => by
    rw [World.setCells, setCells_other b r (o + 1) _ k h]
    exact Below.heap_setCell w _ _ k h
theorem below_setCells {B b : Nat} {a : World} (hb : B ≤ b) : ∀ (vs : List Value) (o : Nat) (w : World), Below B a w → Below B a (w.setCells b o vs)
  | [], _, _, h => h
  | v :: r, o, _, h => below_setCells hb r (o + 1) _ (h.setCell (p := ⟨b, o, none⟩) hb v)
/-- the last mask is stored over -/
theorem RunB.put {S0 : List (Nat → Bool)} {p : Nat → Bool} {g cap n : Nat} (h : RunB w B (.slice (some ⟨g, 0, none⟩) n cap) v2 (S0 ++ [p]) F) (hn : n = S0.length + 1) (q : Nat → Bool) :
    RunB (w.setCells g (S0.length * 23) (maskL q)) B (.slice (some ⟨g, 0, none⟩) n cap) v2 (S0 ++ [q]) F := by
  subst hn
  have ho := h.o1
  refine ⟨⟨by rw [maskLs_len], ?_⟩, own_heap2 h.o2 fun k hk => setCells_other g _ _ w k fun e => h.ne g rfl (by rw [← e]; exact hk), h.ne⟩
  have e1 : (S0 ++ [p]).length = S0.length + 1 := by simp
  have e2 : (S0 ++ [q]).length = S0.length + 1 := by simp
  rcases ho.2 with ⟨h0, _⟩ | ⟨g', cap', cur, hv, hbg, hg, hc, hcm, hcs, ht⟩
  · cases h0
  · rw [e1] at hv hc ht
    rw [e2]
    cases hv
    obtain ⟨C', h1, h2, h3, h4⟩ := setCells_heap g (maskL q) (S0.length * 23) w cur _ hg
    refine .inr ⟨g, cap, C', rfl, hbg, h1, hc, hcm, by rw [h2, hcs], ?_⟩
    have hsz : (S0.length + 1) * 23 ≤ cur.size := by rw [hcs]; exact Nat.mul_le_mul_right _ hc
    apply List.ext_getElem?
    intro k
    have hk := congrArg (fun l => l[k]?) ht
    simp only [List.getElem?_take] at hk
    rw [List.flatMap_append] at hk ⊢
    rw [List.getElem?_take]
    by_cases hk1 : k < (S0.length + 1) * 23
    · rw [if_pos hk1] at hk ⊢
      rw [Array.getElem?_toList] at hk ⊢
      by_cases hk2 : k < S0.length * 23
      · rw [h3 k (.inl hk2), hk, List.getElem?_append_left (by rw [maskLs_len]; exact hk2), List.getElem?_append_left (by rw [maskLs_len]; exact hk2)]
      · obtain ⟨j, rfl⟩ : ∃ j, k = S0.length * 23 + j := ⟨k - S0.length * 23, by omega⟩
        rw [h4 j (by omega) (by rw [maskL_len]; omega), List.getElem?_append_right (by rw [maskLs_len]; omega), maskLs_len, Nat.add_sub_cancel_left]
        simp
    · rw [if_neg hk1, List.getElem?_eq_none (by rw [List.length_append, maskLs_len, List.flatMap_singleton, maskL_len]; omega)]
end

set_option maxHeartbeats 400000 in
theorem RWeek7 (n : Int) (w : World) (h1 : 0 ≤ n) (h2 : n < 146097) :
    Calls Try.prog 32 #[.int .i64 n] w fun e w' => e = .returned (.int .i64 (Civ.weekI n)) ∧ w = w' := by
  go_enter Try.func32, Try.ntmps32
  go_wp2
  go_ret
  exact ⟨ret_int (by unfold Civ.weekI; omega), rfl⟩

end Vm
end Go.Proofs.Ythdaeddaofickaa

namespace Go.Proofs.Ythdaeddaofickaa
open Go.RowKit
namespace Vm
open Msk Sl

theorem fStep_at {l : List Code} {wd : Nat} {day r : Int} {i n : Nat} {fs : List (Int × Nat)} {st : List (Nat → Bool)} {x : Ins} (hx : (insAt l r)[i]? = some x) :
    fStep l wd day ⟨(r, i) :: fs, st, n⟩ = if x.op = 8 then some ⟨(x.a, 0) :: (r, i + 1) :: fs, st, n + 1⟩ else match nextI wd day (fun _ => none) x i st with | none => none | some (i', st', n') => some ⟨(r, i') :: fs, st', n + n'⟩ := by
  unfold fStep
  simp only [hx]
theorem fRun_cases {l : List Code} {wd k : Nat} {day : Int} {s fin : Fs} (h : fRun l wd day k s = some fin) : ∃ k', k = k' + 1 ∧ (s.fr = [] ∧ s = fin ∨ ∃ r i fs s', s.fr = (r, i) :: fs ∧ fStep l wd day s = some s' ∧ fRun l wd day k' s' = some fin) := by
  cases k with
  | zero => cases h
  | succ k =>
    refine ⟨k, rfl, ?_⟩
    rw [fRun] at h
    split at h
    · rename_i e
      cases h
      exact .inl ⟨e, rfl⟩
    · rename_i y fs e
      obtain ⟨r, i⟩ := y
      split at h
      · cases h
      · rename_i s' hs
        exact .inr ⟨r, i, fs, s', e, hs, h⟩
theorem nextI_one {wd : Nat} {day : Int} {x : Ins} {i i' n' : Nat} {st st' : List (Nat → Bool)} (h : nextI wd day (fun _ => none) x i st = some (i', st', n')) : n' = 1 ∧ st'.length ≤ st.length + 1 ∧ (i' = i + 1 ∨ guardI x ∧ i' = x.to.toNat ∨ x.op ≠ 1 ∧ x.op ≠ 2 ∧ x.op ≠ 3 ∧ x.op ≠ 4 ∧ x.op ≠ 5 ∧ x.op ≠ 6 ∧ x.op ≠ 7 ∧ x.op ≠ 8) := by
  have two : ∀ {f : (Nat → Bool) → (Nat → Bool) → Nat → Bool}, twoS f i st = some (i', st', n') → n' = 1 ∧ st'.length ≤ st.length + 1 ∧ i' = i + 1 := fun e => by
    match st, e with
    | b :: a :: r, e => simp [twoS] at e; obtain ⟨rfl, rfl, rfl⟩ := e; simp; try omega
  unfold nextI at h
  split at h
  · cases h; exact ⟨rfl, by simp, .inl rfl⟩
  · split at h
    · have := two h; exact ⟨this.1, this.2.1, .inl this.2.2⟩
    · split at h
      · have := two h; exact ⟨this.1, this.2.1, .inl this.2.2⟩
      · split at h
        · have := two h; exact ⟨this.1, this.2.1, .inl this.2.2⟩
        · split at h
          · split at h
            · cases h; exact ⟨rfl, by simp, .inl rfl⟩
            · cases h
          · split at h
            · cases h
            · rename_i h1 h2 h3 h4 h5 h8
              split at h
              · cases h; exact ⟨rfl, by simp, .inl rfl⟩
              · cases h
                refine ⟨rfl, by simp, ?_⟩
                by_cases hg : guardI x
                · exact .inr (.inl ⟨hg, rfl⟩)
                · unfold guardI at hg
                  exact .inr (.inr (by omega))
theorem fRun_le {l : List Code} {wd : Nat} {day : Int} : ∀ {k : Nat} {s fin : Fs}, fRun l wd day k s = some fin → s.n ≤ fin.n
  | 0, _, _, h => by cases h
  | k + 1, s, fin, h => by
    obtain ⟨k', e, h⟩ := fRun_cases h
    cases e
    rcases h with ⟨_, rfl⟩ | ⟨r, i, fs, s', h1, h2, h3⟩
    · exact Nat.le_refl _
    · have ih := fRun_le h3
      refine Nat.le_trans ?_ ih
      obtain ⟨fr, st, n⟩ := s
      simp only at h1
      subst h1
      cases hx : (insAt l r)[i]? with
      | none => unfold fStep at h2; simp only [hx] at h2; cases h2; exact Nat.le_refl _
      | some x =>
        rw [fStep_at hx] at h2
        split at h2
        · cases h2; simp
        · split at h2
          · cases h2
          · cases h2; simp
/-- what stays true -/
structure Fok (l : List Code) (s : Fs) : Prop where
  st : s.st.length ≤ s.n
  fr : s.fr.length ≤ s.n + 1
  at' : ∀ x ∈ s.fr, 0 ≤ x.1 ∧ x.1 < l.length ∧ x.2 ≤ (insAt l x.1).length
theorem Fok.step {l : List Code} {wd : Nat} {day : Int} {s s' : Fs} (hins : ∀ c ∈ l, ∀ k x, c.ins[k]? = some x → insErr l.length c.ins.length k x = 0) (h : Fok l s) (e : fStep l wd day s = some s') : Fok l s' := by
  obtain ⟨fr, st, n⟩ := s
  obtain ⟨h1, h2, h3⟩ := h
  simp only at h1 h2 h3
  match fr, e, h2, h3 with
  | [], e, _, _ => cases e
  | (r, i) :: fs, e, h2, h3 =>
    have hr := h3 (r, i) (by simp)
    simp only at hr
    cases hx : (insAt l r)[i]? with
    | none =>
      unfold fStep at e
      simp only [hx] at e
      cases e
      exact ⟨h1, by simp only [List.length_cons] at h2 ⊢; omega, fun x hx => h3 x (by simp [hx])⟩
    | some x =>
      rw [fStep_at hx] at e
      have hil := (List.getElem?_eq_some_iff.1 hx).1
      obtain ⟨c, hc⟩ : ∃ c, l[r.toNat]? = some c := ⟨_, List.getElem?_eq_getElem (by omega)⟩
      have hci : insAt l r = c.ins := by unfold insAt; rw [hc]; rfl
      rw [hci] at hx hil
      have h0 := hins c (List.mem_of_getElem? hc) i x hx
      have hk := ins_kinds h0
      have hother : ∀ y ∈ fs, 0 ≤ y.1 ∧ y.1 < l.length ∧ y.2 ≤ (insAt l y.1).length := fun y hy => h3 y (by simp [hy])
      split at e
      · rename_i h8
        cases e
        refine ⟨by simp only; omega, by simp only [List.length_cons] at h2 ⊢; omega, fun y hy => ?_⟩
        simp only [List.mem_cons] at hy
        rcases hy with rfl | rfl | hy
        · exact ⟨by simp only; omega, by simp only; omega, Nat.zero_le _⟩
        · exact ⟨hr.1, hr.2.1, by simp only; rw [hci]; omega⟩
        · exact hother y hy
      · split at e
        · cases e
        · rename_i i' st' n' hn
          cases e
          obtain ⟨rfl, q1, q2⟩ := nextI_one hn
          refine ⟨by simp only; omega, by simp only [List.length_cons] at h2 ⊢; omega, fun y hy => ?_⟩
          simp only [List.mem_cons] at hy
          rcases hy with rfl | hy
          · refine ⟨hr.1, hr.2.1, ?_⟩
            simp only
            rw [hci]
            rcases q2 with rfl | ⟨hg, rfl⟩ | q2
            · omega
            · unfold guardI at hg; omega
            · omega
          · exact hother y hy

section
variable {W : World} {ops : Array Oper} {rest : List Oper} {o : Oper} {a : Act} {Q : Exit → Act → World → Prop} {B : Nat} {v1 v2 : Value} {S : List (Nat → Bool)} {F : List (Int × Nat)}
/-- a mask that was just made is appended to the stack -/
theorem wp_pushM {p : Nat → Bool} {cs : Array Value} (hgd : o.guard = none) (so xo : Operand) (ho : o.op = .call { callee := .builtin .append, args := #[so, xo], argTypes := #[61, 61] })
    (hR : RunB W B v1 v2 S F) (hS : S.length < 1000000) (hB : B ≤ W.heap.size) (hcs : cs = setA p) (hs : a.eval so = v1) (hx : a.eval xo = .slice (some ⟨W.heap.size, 0, none⟩) 1 1)
    (h : ∀ v1' w', RunB w' B v1' v2 (S ++ [p]) F → Below B W w' → (W.alloc (.cells cs 28)).grownBy w' v1.ownBlock → wpList Try.prog ops Q rest (a.put o.dst v1') w') : wpList Try.prog ops Q (o :: rest) a (W.alloc (.cells cs 28)) := by
  subst hcs
  obtain ⟨i, z, hi, hz, hsi, hby, hzs⟩ := el_mask.inf
  have hR1 := hR.below ((Below.refl W.heap.size W).alloc (Nat.le_refl _) (.cells (setA p) 28)) (Nat.le_refl _)
  refine wpList_append_lies _ hgd so xo 61 ho B 28 i z 23 184 el_mask.sl hi hz hsi hby hzs (by decide) v1 S.length _ hs hR1.o1 ⟨W.heap.size, 0, none⟩ 1 1 (maskL p) hx (by rw [maskL_len]) (fun j u hu => ?_) (one_cell (setW p)) (by decide) (by simp only [maxLen]; omega) (by omega) (by simp; omega) _ rfl ?_
  · have := (Blk.new W 28 (setA p)).cell j
    rw [Addr.add_lit, Nat.zero_add, this]
    simpa [maskL] using hu
  · intro k c w' h2 h3 h4 _
    refine h _ w' (hR1.pushM rfl h2 h3 (h4.imp id (fun e => by rw [e]; exact Nat.le_refl _))) ?_ h3
    exact ((Below.refl _ _).alloc hB _).trans (own_below (by simp; omega) hR1.o1 h3)
/-- a frame that was just made is appended -/
theorem wp_pushF {r : Int} (hgd : o.guard = none) (so xo : Operand) (ho : o.op = .call { callee := .builtin .append, args := #[so, xo], argTypes := #[68, 68] })
    (hR : RunB W B v1 v2 S F) (hS : F.length < 1000000) (hB : B ≤ W.heap.size) (hs : a.eval so = v2) (hx : a.eval xo = .slice (some ⟨W.heap.size, 0, none⟩) 1 1)
    (h : ∀ v2' w', RunB w' B v1 v2' S (F ++ [(r, 0)]) → Below B W w' → wpList Try.prog ops Q rest (a.put o.dst v2') w') : wpList Try.prog ops Q (o :: rest) a (W.alloc (.cells #[.int .i64 r, .int .i64 0] 67)) := by
  obtain ⟨i, z, hi, hz, hsi, hby, hzs⟩ := el_frame.inf
  have hR1 := hR.below ((Below.refl W.heap.size W).alloc (Nat.le_refl _) (.cells #[.int .i64 r, .int .i64 0] 67)) (Nat.le_refl _)
  refine wpList_append_lies _ hgd so xo 68 ho B 67 i z 2 16 el_frame.sl hi hz hsi hby hzs (by decide) v2 F.length _ hs hR1.o2 ⟨W.heap.size, 0, none⟩ 1 1 (frL (r, 0)) hx rfl (fun j u hu => ?_) (by simp [frL, Value.oneCell']) (by decide) (by simp only [maxLen]; omega) (by omega) (by simp; omega) _ rfl ?_
  · have := (Blk.new W 67 #[.int .i64 r, .int .i64 0]).cell j
    rw [Addr.add_lit, Nat.zero_add, this]
    simpa [frL] using hu
  · intro k c w' h2 h3 h4 _
    refine h _ w' (hR1.pushF rfl h2 h3 (h4.imp id (fun e => by rw [e]; exact Nat.le_refl _))) ?_
    exact ((Below.refl _ _).alloc hB _).trans (own_below (by simp; omega) hR1.o2 h3)
end
/-- the two rows as they begin -/
theorem RunB.start (W : World) (r : Int) : RunB (W.alloc (.cells #[.int .i64 r, .int .i64 0] 67)) W.heap.size (.slice none 0 0) (.slice (some ⟨W.heap.size, 0, none⟩) 1 1) [] [(r, 0)] :=
  ⟨World.ownsRow_nil _ _ _ _, ⟨rfl, .inr ⟨W.heap.size, 1, _, rfl, Nat.le_refl _, heap_alloc_new W _, Nat.le_refl _, by simp [maxLen], rfl, rfl⟩⟩, fun g hg => by cases hg⟩
theorem RunB.two {w : World} {B : Nat} {v1 v2 : Value} {S0 : List (Nat → Bool)} {p1 p2 : Nat → Bool} {F : List (Int × Nat)} (h : RunB w B v1 v2 (S0 ++ [p1, p2]) F) : ∃ g cap, v1 = .slice (some ⟨g, 0, none⟩) (S0.length + 2) cap ∧ B ≤ g ∧ g < w.heap.size ∧ S0.length + 2 ≤ cap ∧ cap ≤ 9223372036854775807 ∧
    cellsAt w g (S0.length * 23) 23 = some (setA p1) ∧ cellsAt w g ((S0.length + 1) * 23) 23 = some (setA p2) := by
  obtain ⟨g, cap, h1, h2, h3, h4, h5, h6⟩ := h.mask (by simp)
  have e : (S0 ++ [p1, p2]).length = S0.length + 2 := by simp
  rw [e] at h1 h4
  exact ⟨g, cap, h1, h2, h3, h4, h5, h6 _ _ (by simp), h6 _ _ (by rw [List.getElem?_append_right (by omega)]; simp)⟩
theorem RunB.one {w : World} {B : Nat} {v1 v2 : Value} {S0 : List (Nat → Bool)} {p1 : Nat → Bool} {F : List (Int × Nat)} (h : RunB w B v1 v2 (S0 ++ [p1]) F) : ∃ g cap, v1 = .slice (some ⟨g, 0, none⟩) (S0.length + 1) cap ∧ B ≤ g ∧ g < w.heap.size ∧ S0.length + 1 ≤ cap ∧ cap ≤ 9223372036854775807 ∧
    cellsAt w g (S0.length * 23) 23 = some (setA p1) := by
  obtain ⟨g, cap, h1, h2, h3, h4, h5, h6⟩ := h.mask (by simp)
  have e : (S0 ++ [p1]).length = S0.length + 1 := by simp
  rw [e] at h1 h4
  exact ⟨g, cap, h1, h2, h3, h4, h5, h6 _ _ (by simp)⟩

theorem RunB.fin {w : World} {B : Nat} {v1 v2 : Value} {m : Nat → Bool} (h : RunB w B v1 v2 [m] []) : ∃ g cap A cap2, v1 = .slice (some ⟨g, 0, none⟩) 1 cap ∧ v2 = .slice A 0 cap2 ∧ B ≤ g ∧ g < w.heap.size ∧ cellsAt w g 0 23 = some (setA m) := by
  obtain ⟨g, cap, h1, h2, h3, _, _, h6⟩ := h.mask (by simp)
  obtain ⟨A, cap2, h7⟩ := own_slice h.o2
  exact ⟨g, cap, A, cap2, h1, h7, h2, h3, h6 0 m rfl⟩

theorem RunB.there {w : World} {B g cap : Nat} {v2 : Value} {S0 : List (Nat → Bool)} {p1 : Nat → Bool} {F : List (Int × Nat)} (h : RunB w B (.slice (some ⟨g, 0, none⟩) (S0.length + 1) cap) v2 (S0 ++ [p1]) F) : w.there g (S0.length * 23) 23 := by
  have ho := h.o1
  rcases ho.2 with ⟨_, h0⟩ | ⟨g', cap', cur, e, hbg, hg, hc, hcm, hcs, ht⟩
  · simp at h0
  · have e1 : (S0 ++ [p1]).length = S0.length + 1 := by simp
    rw [e1] at e hc
    cases e
    intro j hj
    have hlt : S0.length * 23 + j < cur.size := by
      rw [hcs]
      have := Nat.mul_le_mul_right 23 hc
      omega
    constructor
    · simp [World.cell?, hg, hlt]
    · simp [World.frozen?, hg]
@[go_sem ↓] theorem run_buildSlice_mask (f : Nat → Nat) (w : World) : (Instr.buildSlice 61 1 #[(0, .agg (maskA f))]).run Try.prog w = .ok (.slice (some ⟨w.heap.size, 0, none⟩) 1 1) (w.alloc (.cells (maskA f) 28)) := by
  go_simp
theorem ROf_S (v : Value) (l : List (Int × Int)) (w : World) (hl : SpansV w w.heap.size v l) : Calls Try.prog 27 #[v] w fun e w' => e = .returned (.agg (maskA (setW (inSpans l)))) ∧ Below w.heap.size w w' := ROf_any v l w hl
theorem RUnion_S (a b : Nat → Bool) (W : World) : Calls Try.prog 28 #[.agg (maskA (setW a)), .agg (maskA (setW b))] W fun e w' => e = .returned (.agg (maskA (setW (orS a b)))) ∧ Below W.heap.size W w' := RUnion_any _ _ W (fun k _ => setW_lt _ k) (fun k _ => setW_lt _ k)
theorem RDiff_S (a b : Nat → Bool) (W : World) : Calls Try.prog 29 #[.agg (maskA (setW a)), .agg (maskA (setW b))] W fun e w' => e = .returned (.agg (maskA (setW (sansS a b)))) ∧ Below W.heap.size W w' := RDiff_any _ _ W (fun k _ => setW_lt _ k) (fun k _ => setW_lt _ k)
theorem RBoth_S (a b : Nat → Bool) (W : World) : Calls Try.prog 30 #[.agg (maskA (setW a)), .agg (maskA (setW b))] W fun e w' => e = .returned (.agg (maskA (setW (andS a b)))) ∧ Below W.heap.size W w' := RBoth_any _ _ W (fun k _ => setW_lt _ k) (fun k _ => setW_lt _ k)
theorem RShift_S (a : Nat → Bool) (n : Int) (W : World) : Calls Try.prog 31 #[.agg (maskA (setW a)), .int .i64 n] W fun e w' => e = .returned (.agg (maskA (setW (shS (has (setW a)) n)))) ∧ Below W.heap.size W w' := RShift_any _ n W (fun k _ => setW_lt _ k)
theorem week_bit (a wd : Nat) (h1 : a ≤ 127) (h2 : wd ≤ 6) : (bits BinOp.and IntKind.i64 (a : Int) (wrap64 (2 ^ wd)) != 0) = (bits BinOp.and IntKind.i64 ((a : Int) / 2 ^ wd) 1 == 1) := by
  have key : ((List.range 7).all fun wd => (List.range 128).all fun a => (bits BinOp.and IntKind.i64 ((a : Nat) : Int) (2 ^ wd) != 0) == (bits BinOp.and IntKind.i64 (((a : Nat) : Int) / 2 ^ wd) 1 == 1)) = true := by kernel_rfl
  have hp : (2 : Int) ^ wd ≤ 64 := by
    have : ((List.range 7).all fun wd => decide ((2 : Int) ^ wd ≤ 64)) = true := by kernel_rfl
    simpa using List.all_eq_true.1 this wd (List.mem_range.2 (by omega))
  have hq : 0 ≤ (2 : Int) ^ wd := Int.pow_nonneg (by decide)
  rw [show wrap64 (2 ^ wd) = 2 ^ wd by unfold wrap64; omega]
  exact eq_of_beq (List.all_eq_true.1 (List.all_eq_true.1 key wd (List.mem_range.2 (by omega))) a (List.mem_range.2 (by omega)))

theorem RunB.at2 {w : World} {B g cap q : Nat} {v1 : Value} {S : List (Nat → Bool)} {F0 : List (Int × Nat)} {r : Int} {i : Nat} (h : RunB w B v1 (.slice (some ⟨g, 0, none⟩) (q + 1) cap) S (F0 ++ [(r, i)])) (hq : F0.length = q) :
    g < w.heap.size ∧ w.cell? ⟨g, q * 2 + 1, none⟩ = some (.int .i64 i) ∧ w.frozen? ⟨g, q * 2 + 1, none⟩ = false ∧ ∀ j : Nat, RunB (w.setCell ⟨g, q * 2 + 1, none⟩ (.int .i64 j)) B v1 (.slice (some ⟨g, 0, none⟩) (q + 1) cap) S (F0 ++ [(r, j)]) := by
  subst hq
  obtain ⟨g', cap', e, _, h2, _, _, _, h4, h5⟩ := h.top
  cases e
  exact ⟨h2, h4, h5, fun j => h.go j⟩

theorem wp_pushM2 {X : World} {ops : Array Oper} {rest : List Oper} {o : Oper} {a : Act} {Q : Exit → Act → World → Prop} {B g : Nat} {v1 v2 : Value} {S : List (Nat → Bool)} {F : List (Int × Nat)} {p : Nat → Bool} (hgd : o.guard = none) (so xo : Operand) (ho : o.op = .call { callee := .builtin .append, args := #[so, xo], argTypes := #[61, 61] })
    (hR : RunB X B v1 v2 S F) (hG : Blk X g 28 (maskA (setW p))) (hS : S.length < 1000000) (hB : B ≤ X.heap.size) (hs : a.eval so = v1) (hx : a.eval xo = .slice (some ⟨g, 0, none⟩) 1 1)
    (h : ∀ v1' w', RunB w' B v1' v2 (S ++ [p]) F → Below B X w' → wpList Try.prog ops Q rest (a.put o.dst v1') w') : wpList Try.prog ops Q (o :: rest) a X := by
  obtain ⟨i, z, hi, hz, hsi, hby, hzs⟩ := el_mask.inf
  refine wpList_append_lies _ hgd so xo 61 ho B 28 i z 23 184 el_mask.sl hi hz hsi hby hzs (by decide) v1 S.length _ hs hR.o1 ⟨g, 0, none⟩ 1 1 (maskL p) hx (by rw [maskL_len]) (fun j u hu => ?_) (one_cell (setW p)) (by decide) (by simp only [maxLen]; omega) (by omega) hB _ rfl ?_
  · have := hG.cell j
    rw [Addr.add_lit, Nat.zero_add, this]
    simpa [maskL] using hu
  · intro k c w' h2 h3 h4 _
    exact h _ w' (hR.pushM rfl h2 h3 (h4.imp id (fun e => by rw [e]; exact Nat.le_refl _))) (own_below hB hR.o1 h3)

def MadeAt (p : Nat → Bool) (v : Value) (w : World) : Prop := ∃ g, v = .slice (some ⟨g, 0, none⟩) 1 1 ∧ Blk w g 28 (maskA (setW p))
theorem MadeAt.new (p : Nat → Bool) (W : World) : MadeAt p (.slice (some ⟨W.heap.size, 0, none⟩) 1 1) (W.alloc (.cells (maskA (setW p)) 28)) := ⟨_, rfl, Blk.new _ _ _⟩

end Vm
end Go.Proofs.Ythdaeddaofickaa
