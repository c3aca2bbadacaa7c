/- What rules mean on a day, plainly. No walk. -/
import Derived.Test.YtfhedopfjgjffaaRul
import Derived.Test.YtfhedopfjgjffaaVm
namespace Go.Proofs.Ytfhedopfjgjffaa
namespace Ru
open Msk Vm

/-- of a kind, what it means, by what its kids mean -/
def meanK (wd : Nat) (day k a b : Int) (p : Nat → Bool) (ms : List (Nat → Bool)) : Nat → Bool :=
  if k = 2 then inSpans [(0, 1440)]
  else if k = 3 then inSpans [(a, b)]
  else if k = 4 then (if (bits BinOp.and IntKind.i64 (a / 2 ^ wd) 1 == 1) = true then (ms[0]?).getD noS else noS)
  else if k = 5 then (if (decide (a ≤ day) && decide (day ≤ b)) = true then (ms[0]?).getD noS else noS)
  else if k = 6 then orS ((ms[0]?).getD noS) ((ms[1]?).getD noS)
  else if k = 7 then sansS ((ms[0]?).getD noS) ((ms[1]?).getD noS)
  else if k = 8 then andS ((ms[0]?).getD noS) ((ms[1]?).getD noS)
  else if k = 9 then shS (has (setW ((ms[0]?).getD noS))) a
  else if k = 10 then p
  else noS
mutual
def meanE (wd : Nat) (day : Int) (env : List UInt8 → Nat → Bool) : Expr → Nat → Bool
  | .mk k a b nm kids => meanK wd day k a b (env nm) (meanL wd day env kids)
def meanL (wd : Nat) (day : Int) (env : List UInt8 → Nat → Bool) : List Expr → List (Nat → Bool)
  | [] => []
  | e :: l => meanE wd day env e :: meanL wd day env l
end
theorem meanE_eq (wd : Nat) (day : Int) (env : List UInt8 → Nat → Bool) (e : Expr) : meanE wd day env e = meanK wd day e.kind e.a e.b (env e.name) (meanL wd day env e.kids) := by
  cases e
  rw [meanE]
  rfl
theorem meanL_at (wd : Nat) (day : Int) (env : List UInt8 → Nat → Bool) : ∀ {l : List Expr} {i : Nat} {e : Expr}, l[i]? = some e → (meanL wd day env l)[i]? = some (meanE wd day env e)
  | [], _, _, h => by simp at h
  | x :: l, i, e, h => by
    rw [meanL]
    cases i with
    | zero => simp at h; subst h; rfl
    | succ i => simpa using meanL_at wd day env (by simpa using h)
theorem meanK_name {wd : Nat} {day k a b : Int} {p q : Nat → Bool} {ms : List (Nat → Bool)} (h : k ≠ 10) : meanK wd day k a b p ms = meanK wd day k a b q ms := by
  unfold meanK
  simp only [if_neg h]
theorem meanK_ten {wd : Nat} {day a b : Int} {p : Nat → Bool} {ms : List (Nat → Bool)} : meanK wd day 10 a b p ms = p := by
  unfold meanK
  rw [if_neg (by decide), if_neg (by decide), if_neg (by decide), if_neg (by decide), if_neg (by decide), if_neg (by decide), if_neg (by decide), if_neg (by decide), if_pos rfl]
mutual
theorem meanE_loc {wd : Nat} {day : Int} {env env' : List UInt8 → Nat → Bool} : ∀ (e : Expr), (∀ nm ∈ namesE e, env nm = env' nm) → meanE wd day env e = meanE wd day env' e
  | .mk k a b nm kids, h => by
    rw [meanE, meanE]
    rw [namesE] at h
    by_cases hk : k = 10
    · rw [if_pos hk] at h
      rw [h nm (by simp), hk, meanK_ten, meanK_ten]
    · rw [if_neg hk] at h
      rw [meanL_loc kids h]
      exact meanK_name hk
theorem meanL_loc {wd : Nat} {day : Int} {env env' : List UInt8 → Nat → Bool} : ∀ (l : List Expr), (∀ nm ∈ namesL l, env nm = env' nm) → meanL wd day env l = meanL wd day env' l
  | [], _ => by rw [meanL, meanL]
  | e :: l, h => by
    rw [meanL, meanL]
    rw [namesL] at h
    rw [meanE_loc e (fun nm hn => h nm (List.mem_append_left _ hn)), meanL_loc l (fun nm hn => h nm (List.mem_append_right _ hn))]
end
/-- what all rules mean: each what its expression means, where names stand for what theirs mean -/
def Means (wd : Nat) (day : Int) (l : List Rule) (env : List UInt8 → Nat → Bool) : Prop := ∀ (i : Nat) (r : Rule), l[i]? = some r → env r.name = meanE wd day env r.expr
/-- right rules: names once, all known, no rings -/
structure RightR (l : List Rule) : Prop where
  once : ∀ (i : Nat) (r : Rule), l[i]? = some r → placeR l r.name = i
  known : ∀ (i : Nat) (r : Rule), l[i]? = some r → ∀ nm ∈ namesE r.expr, placeR l nm < l.length
  noring : ∀ i, i < l.length → ¬ Wal.Way (stepB (directR l)) l.length i i
theorem directR_at2 {l : List Rule} {i : Nat} {r : Rule} (h : l[i]? = some r) : directR l i = (namesE r.expr).map (findI l) := by
  unfold directR
  rw [h]
  rfl
theorem findI_nat {l : List Rule} {nm : List UInt8} (h : placeR l nm < l.length) : findI l nm = (placeR l nm : Nat) := if_pos h
theorem stepB_lt {l : List Rule} {i k : Nat} (h : stepB (directR l) i k = true) : k < l.length := by
  unfold stepB directR at h
  rw [List.contains_iff_mem] at h
  obtain ⟨nm, _, e⟩ := List.mem_map.1 h
  have := findI_range l nm
  omega
theorem means_exists (wd : Nat) (day : Int) {l : List Rule} (hR : RightR l) : ∃ env, Means wd day l env := by
  obtain ⟨E, hE⟩ := fix_exists (r := stepB (directR l)) (n := l.length) (fun i k h => stepB_lt h) hR.noring
    (fun (E : Nat → Nat → Bool) i => match l[i]? with | some r => meanE wd day (fun nm => if placeR l nm < l.length then E (placeR l nm) else noS) r.expr | none => noS)
    (fun E E' i h => by
      cases hi : l[i]? with
      | none => rfl
      | some r =>
        refine meanE_loc r.expr fun nm hn => ?_
        have hk := hR.known i r hi nm hn
        rw [if_pos hk, if_pos hk]
        refine h _ ?_
        unfold stepB
        rw [directR_at2 hi, List.contains_iff_mem]
        exact List.mem_map.2 ⟨nm, hn, findI_nat hk⟩) noS
  refine ⟨fun nm => if placeR l nm < l.length then E (placeR l nm) else noS, fun i r hi => ?_⟩
  have h1 := hR.once i r hi
  have h2 := (List.getElem?_eq_some_iff.1 hi).1
  have h3 := hE i h2
  rw [hi] at h3
  show (if placeR l r.name < l.length then E (placeR l r.name) else noS) = _
  rw [if_pos (by omega), h1]
  exact h3

end Ru
end Go.Proofs.Ytfhedopfjgjffaa
