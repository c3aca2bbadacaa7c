/- Who comes to whom, by way of others: the table that grows by one way-point at a time. No walk. Rules, plainly: expressions, what is wrong with their form; whom they speak of; sets that grow; what each means by the others is a fixed point. No walk. Rules that came in: how their cells read. No walk. What rules mean on a day, plainly. No walk. -/
import Derived.KernelRfl
import Derived.Test.YtbadplbdgpbdaaaDoorStr
import Derived.Test.YtbadplbdgpbdaaaDoorVmQ
namespace Go.Proofs.YtbadplbdgpbdaaaDoor
namespace Wal

/-- a way whose way-points are below m -/
inductive Way (r : Nat → Nat → Bool) (m : Nat) : Nat → Nat → Prop
  | one {i k : Nat} (h : r i k = true) : Way r m i k
  | cons {i j k : Nat} (h : r i j = true) (hj : j < m) (t : Way r m j k) : Way r m i k
theorem Way.mono {r : Nat → Nat → Bool} {m m' : Nat} (hm : m ≤ m') {i k : Nat} (h : Way r m i k) : Way r m' i k := by
  induction h with
  | one h => exact .one h
  | cons h hj _ ih => exact .cons h (by omega) ih
theorem Way.append {r : Nat → Nat → Bool} {m : Nat} {i j k : Nat} (h : Way r m i j) (hj : j < m) (t : Way r m j k) : Way r m i k := by
  induction h with
  | one h => exact .cons h hj t
  | cons h hj' _ ih => exact .cons h hj' (ih hj t)
/-- one way-point more -/
def step (m : Nat) (r : Nat → Nat → Bool) : Nat → Nat → Bool := fun i k => r i k || (r i m && r m k)
def wal (r : Nat → Nat → Bool) : Nat → Nat → Nat → Bool
  | 0 => r
  | m + 1 => step m (wal r m)
theorem wal_way (r : Nat → Nat → Bool) (m : Nat) : ∀ i k, wal r m i k = true ↔ Way r m i k := by
  induction m with
  | zero =>
    intro i k
    constructor
    · exact fun h => .one h
    · intro h
      cases h with
      | one h => exact h
      | cons h hj _ => omega
  | succ m ih =>
    intro i k
    rw [wal, step, Bool.or_eq_true, Bool.and_eq_true, ih, ih, ih]
    constructor
    · rintro (h | ⟨h1, h2⟩)
      · exact h.mono (by omega)
      · exact (h1.mono (by omega)).append (by omega) (h2.mono (by omega))
    · intro h
      induction h with
      | one h => exact .inl (.one h)
      | @cons i j k h hj t ih2 =>
        by_cases hjm : j = m
        · subst hjm
          rcases ih2 with h2 | ⟨_, h2⟩
          · exact .inr ⟨.one h, h2⟩
          · exact .inr ⟨.one h, h2⟩
        · rcases ih2 with h2 | ⟨h2, h3⟩
          · exact .inl (.cons h (by omega) h2)
          · exact .inr ⟨.cons h (by omega) h2, h3⟩
/-- in place the same comes of it: row m and column m stay -/
theorem step_row (m : Nat) (r : Nat → Nat → Bool) (k : Nat) : step m r m k = r m k := by
  unfold step
  cases r m k <;> simp
theorem step_col (m : Nat) (r : Nat → Nat → Bool) (i : Nat) : step m r i m = r i m := by
  unfold step
  cases r i m <;> simp
theorem step_idem (m : Nat) (r : Nat → Nat → Bool) (i k : Nat) : (step m r i k || (step m r i m && step m r m k)) = step m r i k := by
  rw [step_row, step_col]
  unfold step
  cases r i k <;> cases r i m <;> cases r m k <;> rfl
/-- every way, where all are below n -/
theorem wal_all {r : Nat → Nat → Bool} {n : Nat} (hr : ∀ i k, r i k = true → i < n ∧ k < n) {m i k : Nat} (h : Way r m i k) : wal r n i k = true := by
  rw [wal_way]
  induction h with
  | one h => exact .one h
  | cons h _ _ ih => exact .cons h (hr _ _ h).2 ih

end Wal
end Go.Proofs.YtbadplbdgpbdaaaDoor

namespace Go.Proofs.YtbadplbdgpbdaaaDoor
namespace Ru

/-- an expression -/
inductive Expr where
  | mk (kind a b : Int) (name : List UInt8) (kids : List Expr)
namespace Expr
def kind : Expr → Int | mk k _ _ _ _ => k
def a : Expr → Int | mk _ x _ _ _ => x
def b : Expr → Int | mk _ _ x _ _ => x
def name : Expr → List UInt8 | mk _ _ _ x _ => x
def kids : Expr → List Expr | mk _ _ _ _ x => x
end Expr
structure Rule where
  name : List UInt8
  expr : Expr

mutual
/-- how many expressions -/
def nodesE : Expr → Nat
  | .mk _ _ _ _ kids => 1 + nodesL kids
def nodesL : List Expr → Nat
  | [] => 0
  | e :: l => nodesE e + nodesL l
end
theorem nodesE_pos (e : Expr) : 1 ≤ nodesE e := by cases e; rw [nodesE]; omega
theorem nodesE_kid {l : List Expr} {i : Nat} {e : Expr} (h : l[i]? = some e) : nodesE e ≤ nodesL l := by
  induction l generalizing i with
  | nil => simp at h
  | cons x l ih =>
    rw [nodesL]
    cases i with
    | zero => simp at h; subst h; omega
    | succ i => have := ih (by simpa using h); omega

def kidsOf (k : Int) : Nat := if k = 4 ∨ k = 5 ∨ k = 9 then 1 else if k = 6 ∨ k = 7 ∨ k = 8 then 2 else 0
/-- what is wrong with an expression itself; nm: is this text a name? -/
def ownErr (nm : List UInt8 → Bool) (e : Expr) : Int :=
  if e.kind < 1 ∨ 10 < e.kind then 1
  else if e.kids.length ≠ kidsOf e.kind then 5
  else if e.kind = 3 then (if e.a < 0 ∨ 1440 < e.b ∨ e.b ≤ e.a then 3 else 0)
  else if e.kind = 4 then (if e.a < 1 ∨ 127 < e.a then 3 else 0)
  else if e.kind = 5 then (if e.a < 0 ∨ 146097 ≤ e.b ∨ e.b < e.a then 3 else 0)
  else if e.kind = 9 then (if e.a = 0 ∨ e.a ≤ -1440 ∨ 1440 ≤ e.a then 3 else 0)
  else if e.kind = 10 then (if nm e.name = true then 0 else 7)
  else 0
theorem ownErr_mk (nm : List UInt8 → Bool) (k x y : Int) (s : List UInt8) (kids : List Expr) : ownErr nm (.mk k x y s kids) = if k < 1 ∨ 10 < k then 1
    else if kids.length ≠ kidsOf k then 5
    else if k = 3 then (if x < 0 ∨ 1440 < y ∨ y ≤ x then 3 else 0)
    else if k = 4 then (if x < 1 ∨ 127 < x then 3 else 0)
    else if k = 5 then (if x < 0 ∨ 146097 ≤ y ∨ y < x then 3 else 0)
    else if k = 9 then (if x = 0 ∨ x ≤ -1440 ∨ 1440 ≤ x then 3 else 0)
    else if k = 10 then (if nm s = true then 0 else 7)
    else 0 := rfl
mutual
/-- the first thing that is wrong with an expression so deep, n nodes behind; how many nodes then -/
def formE (nm : List UInt8 → Bool) : Expr → Nat → Nat → Int × Nat
  | .mk k a b name kids, deep, n =>
    if 600 < n + 1 ∨ 40 < deep then (4, n + 1)
    else if ownErr nm (.mk k a b name kids) = 0 then formL nm kids (deep + 1) (n + 1)
    else (ownErr nm (.mk k a b name kids), n + 1)
def formL (nm : List UInt8 → Bool) : List Expr → Nat → Nat → Int × Nat
  | [], _, n => (0, n)
  | e :: l, deep, n => if (formE nm e deep n).1 = 0 then formL nm l deep (formE nm e deep n).2 else formE nm e deep n
end
theorem formE_eq (nm : List UInt8 → Bool) (e : Expr) (deep n : Nat) : formE nm e deep n = if 600 < n + 1 ∨ 40 < deep then (4, n + 1) else if ownErr nm e = 0 then formL nm e.kids (deep + 1) (n + 1) else (ownErr nm e, n + 1) := by
  cases e
  rw [formE]
  rfl
theorem formL_at (nm : List UInt8 → Bool) {l : List Expr} {i : Nat} {e : Expr} (h : l[i]? = some e) (deep n : Nat) :
    formL nm (l.drop i) deep n = if (formE nm e deep n).1 = 0 then formL nm (l.drop (i + 1)) deep (formE nm e deep n).2 else formE nm e deep n := by
  obtain ⟨hi, rfl⟩ := List.getElem?_eq_some_iff.1 h
  rw [List.drop_eq_getElem_cons hi, formL]
mutual
theorem formE_le (nm : List UInt8 → Bool) : ∀ (e : Expr) (deep n : Nat), n ≤ (formE nm e deep n).2 ∧ (formE nm e deep n).2 ≤ max n 600 + 1 ∧ ((formE nm e deep n).1 = 0 → (formE nm e deep n).2 ≤ max n 600)
  | .mk k a b name kids, deep, n => by
    rw [formE]
    split
    · exact ⟨by simp only; omega, by simp only; omega, fun h => by simp at h⟩
    · split
      · have := formL_le nm kids (deep + 1) (n + 1)
        refine ⟨by omega, by omega, fun h => ?_⟩
        have := this.2.2 h
        omega
      · rename_i h1 h2
        exact ⟨by simp only; omega, by simp only; omega, fun h => absurd h h2⟩
theorem formL_le (nm : List UInt8 → Bool) : ∀ (l : List Expr) (deep n : Nat), n ≤ (formL nm l deep n).2 ∧ (formL nm l deep n).2 ≤ max n 600 + 1 ∧ ((formL nm l deep n).1 = 0 → (formL nm l deep n).2 ≤ max n 600)
  | [], _, n => by rw [formL]; simp only; omega
  | e :: l, deep, n => by
    rw [formL]
    have h1 := formE_le nm e deep n
    split
    · rename_i h0
      have h2 := formL_le nm l deep (formE nm e deep n).2
      have h3 := h1.2.2 h0
      refine ⟨by omega, by omega, fun h => ?_⟩
      have := h2.2.2 h
      omega
    · exact h1
end
/-- what is wrong with rules' form -/
def ruleErr (nm : List UInt8 → Bool) (r : Rule) : Int := if nm r.name = true then (formE nm r.expr 1 0).1 else 7

mutual
/-- the names that an expression speaks of, in order -/
def namesE : Expr → List (List UInt8)
  | .mk k _ _ name kids => if k = 10 then [name] else namesL kids
def namesL : List Expr → List (List UInt8)
  | [] => []
  | e :: l => namesE e ++ namesL l
end
theorem namesE_eq (e : Expr) : namesE e = if e.kind = 10 then [e.name] else namesL e.kids := by
  cases e
  rw [namesE]
  rfl
theorem namesL_take {l : List Expr} {i : Nat} {e : Expr} (h : l[i]? = some e) : namesL (l.take (i + 1)) = namesL (l.take i) ++ namesE e := by
  rw [List.take_add_one, h]
  show namesL (l.take i ++ [e]) = _
  generalize l.take i = m
  induction m with
  | nil => rw [List.nil_append, namesL, namesL, namesL, List.append_nil]; rfl
  | cons x m ih => rw [List.cons_append, namesL, namesL, ih, List.append_assoc]
mutual
def speaksE : Expr → List UInt8 → Bool
  | .mk k _ _ name kids, nm => if k = 10 then name == nm else speaksL kids nm
def speaksL : List Expr → List UInt8 → Bool
  | [], _ => false
  | e :: l, nm => speaksE e nm || speaksL l nm
end
theorem speaksE_eq (e : Expr) (nm : List UInt8) : speaksE e nm = if e.kind = 10 then e.name == nm else speaksL e.kids nm := by
  cases e
  rw [speaksE]
  rfl
mutual
theorem speaks_names : ∀ (e : Expr) (nm : List UInt8), speaksE e nm = (namesE e).contains nm
  | .mk k a b name kids, nm => by
    rw [speaksE, namesE]
    split
    · rw [List.contains_cons, List.contains_nil, Bool.or_false, Bool.eq_iff_iff, beq_iff_eq, beq_iff_eq]
      exact eq_comm
    · exact speaks_namesL kids nm
theorem speaks_namesL : ∀ (l : List Expr) (nm : List UInt8), speaksL l nm = (namesL l).contains nm
  | [], _ => by rw [speaksL, namesL]; rfl
  | e :: l, nm => by
    rw [speaksL, namesL, speaks_names e nm, speaks_namesL l nm, Bool.eq_iff_iff]
    simp
end
/-- where the first rule of a name is; as many as there are: there is none -/
def placeR (l : List Rule) (nm : List UInt8) : Nat := l.findIdx fun r => r.name == nm
def findI (l : List Rule) (nm : List UInt8) : Int := if placeR l nm < l.length then (placeR l nm : Nat) else -1
theorem findI_neg {l : List Rule} {nm : List UInt8} : findI l nm < 0 ↔ l.length ≤ placeR l nm := by
  unfold findI
  split <;> omega
theorem findI_range (l : List Rule) (nm : List UInt8) : -1 ≤ findI l nm ∧ findI l nm < l.length := by
  unfold findI
  split <;> omega
theorem placeR_le {l : List Rule} {i : Nat} {r : Rule} (h : l[i]? = some r) : placeR l r.name ≤ i := by
  obtain ⟨hi, rfl⟩ := List.getElem?_eq_some_iff.1 h
  rcases Nat.lt_or_ge i (placeR l l[i].name) with hlt | hge
  · have := List.not_of_lt_findIdx (xs := l) (p := fun r => r.name == l[i].name) hlt
    simp at this
  · exact hge
theorem placeR_name {l : List Rule} {nm : List UInt8} {r : Rule} (h : l[placeR l nm]? = some r) : r.name = nm := by
  obtain ⟨hi, e⟩ := List.getElem?_eq_some_iff.1 h
  have := List.findIdx_getElem (xs := l) (p := fun r : Rule => r.name == nm) (w := hi)
  have e' : l[List.findIdx (fun r : Rule => r.name == nm) l]'hi = r := e
  rw [e'] at this
  simpa using this
mutual
def unknownE (l : List Rule) : Expr → Bool
  | .mk k _ _ name kids => if k = 10 then decide (findI l name < 0) else unknownL l kids
def unknownL (l : List Rule) : List Expr → Bool
  | [] => false
  | e :: es => unknownE l e || unknownL l es
end
theorem unknownE_eq (l : List Rule) (e : Expr) : unknownE l e = if e.kind = 10 then decide (findI l e.name < 0) else unknownL l e.kids := by
  cases e
  rw [unknownE]
  rfl
mutual
theorem unknown_names (l : List Rule) : ∀ (e : Expr), unknownE l e = ((namesE e).map (findI l)).contains (-1)
  | .mk k a b name kids => by
    rw [unknownE, namesE]
    split
    · have := findI_range l name
      rw [Bool.eq_iff_iff]
      simp
      omega
    · exact unknown_namesL l kids
theorem unknown_namesL (l : List Rule) : ∀ (es : List Expr), unknownL l es = ((namesL es).map (findI l)).contains (-1)
  | [] => by rw [unknownL, namesL]; rfl
  | e :: es => by
    rw [unknownL, namesL, unknown_names l e, unknown_namesL l es, Bool.eq_iff_iff]
    simp
end
/-- the rules that each speaks of -/
def directR (l : List Rule) (i : Nat) : List Int := (((l[i]?).map fun r => namesE r.expr).getD []).map (findI l)
def dupErr (l : List Rule) (i : Nat) (r : Rule) : Int := if findI l r.name < i then 7 else 0
theorem dup_place {l : List Rule} {i : Nat} {r : Rule} (h : l[i]? = some r) : dupErr l i r = if findI l r.name = i then 0 else 7 := by
  have h1 := placeR_le h
  have h2 := (List.getElem?_eq_some_iff.1 h).1
  have e : findI l r.name = (placeR l r.name : Nat) := if_pos (by omega)
  unfold dupErr
  rw [e]
  by_cases h3 : placeR l r.name = i
  · rw [if_neg (by omega), if_pos (by omega)]
  · rw [if_pos (by omega), if_neg (by omega)]
def noneErr (l : List Rule) (i : Nat) : Int := if (directR l i).contains (-1) = true then 6 else 0
def stepB (d : Nat → List Int) (i k : Nat) : Bool := (d i).contains ((k : Nat) : Int)
/-- a set that grows, what is still to be done -/
structure Clo (d : Nat → List Int) (n i : Nat) (S : Int → Bool) (todo : List Int) : Prop where
  inS : ∀ y, S y = true → ∃ k : Nat, y = k ∧ k < n ∧ Wal.Way (stepB d) n i k
  inT : ∀ y ∈ todo, ∃ k : Nat, y = k ∧ k < n ∧ Wal.Way (stepB d) n i k
  cov : ∀ y ∈ d i, S y = true ∨ y ∈ todo
  clo : ∀ k : Nat, S k = true → ∀ z ∈ d k, S z = true ∨ z ∈ todo
def putS (S : Int → Bool) (k : Int) : Int → Bool := fun x => if x = k then true else S x
def leftS (d : Nat → List Int) (S : Int → Bool) : Nat → Nat
  | 0 => 0
  | n + 1 => leftS d S n + if S n = true then 0 else (d n).length
theorem putS_same (S : Int → Bool) (k : Int) : putS S k k = true := by unfold putS; rw [if_pos rfl]
theorem putS_other {S : Int → Bool} {k x : Int} (h : x ≠ k) : putS S k x = S x := by unfold putS; rw [if_neg h]
theorem leftS_put (d : Nat → List Int) (S : Int → Bool) (k : Nat) (hk : S k = false) (n : Nat) : leftS d (putS S k) n + (if k < n then (d k).length else 0) = leftS d S n := by
  induction n with
  | zero => simp [leftS]
  | succ n ih =>
    rw [leftS, leftS]
    by_cases e : n = k
    · subst e
      rw [if_neg (by omega), Nat.add_zero] at ih
      rw [putS_same, if_pos rfl, if_pos (by omega), hk, ih]
      simp
    · rw [putS_other (by omega), ← ih]
      by_cases h : k < n
      · simp only [if_pos h, if_pos (show k < n + 1 by omega)]; omega
      · simp only [if_neg h, if_neg (show ¬ k < n + 1 by omega)]; omega
theorem Clo.start {d : Nat → List Int} {n i : Nat} (hd : ∀ y ∈ d i, 0 ≤ y ∧ y < n) : Clo d n i (fun _ => false) (d i) :=
  ⟨fun y h => (by cases h), fun y hy => by
    have h := hd y hy
    obtain ⟨k, rfl⟩ := Int.eq_ofNat_of_zero_le h.1
    exact ⟨k, rfl, by omega, .one (by unfold stepB; simpa using hy)⟩, fun y hy => .inr hy, fun k h => (by cases h)⟩
theorem Clo.seen {d : Nat → List Int} {n i : Nat} {S : Int → Bool} {k : Int} {t : List Int} (h : Clo d n i S (k :: t)) (hk : S k = true) : Clo d n i S t :=
  ⟨h.inS, fun y hy => h.inT y (by simp [hy]), fun y hy => by
    rcases h.cov y hy with h1 | h1
    · exact .inl h1
    · rcases List.mem_cons.1 h1 with rfl | h1
      · exact .inl hk
      · exact .inr h1, fun q hq z hz => by
    rcases h.clo q hq z hz with h1 | h1
    · exact .inl h1
    · rcases List.mem_cons.1 h1 with rfl | h1
      · exact .inl hk
      · exact .inr h1⟩
theorem Clo.new {d : Nat → List Int} {n i : Nat} {S : Int → Bool} {k : Nat} {t : List Int} (h : Clo d n i S ((k : Int) :: t)) (hd : ∀ y ∈ d k, 0 ≤ y ∧ y < n) : Clo d n i (putS S k) (t ++ d k) := by
  obtain ⟨k', e, hkn, hw⟩ := h.inT k (by simp)
  obtain rfl : k = k' := by omega
  have put : ∀ z, (S z = true ∨ z ∈ (k : Int) :: t) → putS S k z = true ∨ z ∈ t ++ d k := fun z hz => by
    unfold putS
    rcases hz with hz | hz
    · left; split
      · rfl
      · exact hz
    · rcases List.mem_cons.1 hz with rfl | hz
      · left; rw [if_pos rfl]
      · right; exact List.mem_append_left _ hz
  refine ⟨fun y hy => ?_, fun y hy => ?_, fun y hy => put y (h.cov y hy), fun q hq z hz => ?_⟩
  · unfold putS at hy
    split at hy
    · rename_i e; exact ⟨k, e, hkn, hw⟩
    · exact h.inS y hy
  · rcases List.mem_append.1 hy with hy | hy
    · exact h.inT y (by simp [hy])
    · have h0 := hd y hy
      obtain ⟨q, rfl⟩ := Int.eq_ofNat_of_zero_le h0.1
      exact ⟨q, rfl, by omega, hw.append hkn (.one (by unfold stepB; simpa using hy))⟩
  · unfold putS at hq
    split at hq
    · rename_i e
      obtain rfl : q = k := by omega
      exact .inr (List.mem_append_right _ hz)
    · exact put z (h.clo q hq z hz)
theorem Clo.done {d : Nat → List Int} {n i : Nat} {S : Int → Bool} (h : Clo d n i S []) (k : Nat) : S k = true ↔ Wal.Way (stepB d) n i k := by
  constructor
  · intro hk
    obtain ⟨k', e, _, hw⟩ := h.inS k hk
    obtain rfl : k = k' := by omega
    exact hw
  · intro hw
    have one : ∀ a b : Nat, (a = i ∨ S a = true) → stepB d a b = true → S b = true := fun a b ha hs => by
      have hm : (b : Int) ∈ d a := by unfold stepB at hs; simpa using hs
      rcases ha with rfl | ha
      · rcases h.cov _ hm with h1 | h1
        · exact h1
        · cases h1
      · rcases h.clo a ha _ hm with h1 | h1
        · exact h1
        · cases h1
    have go : ∀ a b : Nat, Wal.Way (stepB d) n a b → (a = i ∨ S a = true) → S b = true := fun a b hw => by
      induction hw with
      | one hs => exact fun ha => one _ _ ha hs
      | cons hs _ _ ih => exact fun ha => ih (.inr (one _ _ ha hs))
    exact go i k hw (.inl rfl)
theorem Clo.size {d : Nat → List Int} {n i : Nat} {S : Int → Bool} {k : Nat} {t : List Int} (h : Clo d n i S ((k : Int) :: t)) (hk : S k = false) : (t ++ d k).length + leftS d (putS S k) n + 1 = ((k : Int) :: t).length + leftS d S n := by
  obtain ⟨k', e, hkn, _⟩ := h.inT k (by simp)
  obtain rfl : k = k' := by omega
  have := leftS_put d S k hk n
  rw [if_pos hkn] at this
  rw [List.length_append, List.length_cons]
  omega
/-- the document's table and the code's sets tell the same -/
theorem table_set {d : Nat → List Int} {n i k : Nat} {S : Int → Bool} (h : Clo d n i S []) : Wal.wal (stepB d) n i k = S k := by
  rw [Bool.eq_iff_iff, Wal.wal_way, h.done k]
/-- how many of those below m are in a set -/
def cntB (U : Nat → Bool) : Nat → Nat
  | 0 => 0
  | m + 1 => cntB U m + if U m = true then 1 else 0
theorem cntB_mono {U V : Nat → Bool} : ∀ m, (∀ k, k < m → U k = true → V k = true) → cntB U m ≤ cntB V m
  | 0, _ => Nat.le_refl _
  | m + 1, h => by
    have := cntB_mono m (fun k hk => h k (by omega))
    rw [cntB, cntB]
    by_cases hu : U m = true
    · rw [if_pos hu, if_pos (h m (by omega) hu)]; omega
    · rw [if_neg hu]; omega
theorem cntB_lt {U V : Nat → Bool} {k : Nat} : ∀ m, (∀ k, k < m → U k = true → V k = true) → k < m → U k = false → V k = true → cntB U m < cntB V m
  | 0, _, hk, _, _ => by omega
  | m + 1, h, hk, hu, hv => by
    rw [cntB, cntB]
    by_cases e : k = m
    · subst e
      have := cntB_mono k (fun j hj => h j (by omega))
      rw [hu, hv]
      simp
      omega
    · have := cntB_lt m (fun j hj => h j (by omega)) (by omega) hu hv
      by_cases h2 : U m = true
      · rw [if_pos h2, if_pos (h m (by omega) h2)]; omega
      · rw [if_neg h2]; omega
theorem cntB_pos {U : Nat → Bool} : ∀ {m : Nat}, 0 < cntB U m → ∃ k, k < m ∧ U k = true
  | 0, h => by simp [cntB] at h
  | m + 1, h => by
    rw [cntB] at h
    by_cases h2 : U m = true
    · exact ⟨m, by omega, h2⟩
    · rw [if_neg h2] at h
      obtain ⟨k, hk, hu⟩ := cntB_pos (U := U) (m := m) (by omega)
      exact ⟨k, by omega, hu⟩
/-- where there are no rings, some one of any set speaks of none of the set -/
theorem last_one {r : Nat → Nat → Bool} {n : Nat} (hr : ∀ i k, r i k = true → k < n) (hno : ∀ i, i < n → ¬ Wal.Way r n i i) (U : Nat → Bool) {i : Nat} (hi : i < n) (hU : U i = true) : ∃ k, k < n ∧ U k = true ∧ ∀ j, r k j = true → U j = false := by
  have key : ∀ (c : Nat) (i : Nat), i < n → U i = true → cntB (fun k => U k && Wal.wal r n i k) n ≤ c → ∃ k, k < n ∧ U k = true ∧ ∀ j, r k j = true → U j = false := by
    intro c
    induction c with
    | zero =>
      intro i hi hU hc
      refine ⟨i, hi, hU, fun j hj => ?_⟩
      cases hUj : U j with
      | false => rfl
      | true =>
        have h1 : cntB (fun _ => false) n < cntB (fun k => U k && Wal.wal r n i k) n := cntB_lt n (fun _ _ h => by cases h) (hr i j hj) rfl (by rw [hUj, (Wal.wal_way r n i j).2 (.one hj)]; rfl)
        omega
    | succ c ih =>
      intro i hi hU hc
      by_cases h : ∃ j, r i j = true ∧ U j = true
      · obtain ⟨j, hj, hUj⟩ := h
        have hjn := hr i j hj
        refine ih j hjn hUj ?_
        have : cntB (fun k => U k && Wal.wal r n j k) n < cntB (fun k => U k && Wal.wal r n i k) n := by
          refine cntB_lt (k := j) n (fun k _ hk => ?_) hjn ?_ ?_
          · rw [Bool.and_eq_true] at hk ⊢
            exact ⟨hk.1, (Wal.wal_way r n i k).2 (.cons hj hjn ((Wal.wal_way r n j k).1 hk.2))⟩
          · rw [Bool.and_eq_false_iff]
            right
            cases hw : Wal.wal r n j j with
            | false => rfl
            | true => exact absurd ((Wal.wal_way r n j j).1 hw) (hno j hjn)
          · rw [hUj, (Wal.wal_way r n i j).2 (.one hj)]; rfl
        omega
      · refine ⟨i, hi, hU, fun j hj => ?_⟩
        cases hUj : U j with
        | false => rfl
        | true => exact absurd ⟨j, hj, hUj⟩ h
  exact key _ i hi hU (Nat.le_refl _)
theorem cntB_le (U : Nat → Bool) : ∀ m, cntB U m ≤ m
  | 0 => Nat.le_refl _
  | m + 1 => by
    have := cntB_le U m
    rw [cntB]
    split <;> omega
theorem cntB_not {U : Nat → Bool} : ∀ {m : Nat}, cntB U m < m → ∃ k, k < m ∧ U k = false
  | 0, h => by omega
  | m + 1, h => by
    cases hu : U m with
    | false => exact ⟨m, by omega, hu⟩
    | true =>
      rw [cntB, if_pos hu] at h
      obtain ⟨k, hk, h2⟩ := cntB_not (U := U) (m := m) (by omega)
      exact ⟨k, by omega, h2⟩
/-- what each means, by what those mean that it speaks of: there is such a thing -/
theorem fix_exists {α : Type} {r : Nat → Nat → Bool} {n : Nat} (hr : ∀ i k, r i k = true → k < n) (hno : ∀ i, i < n → ¬ Wal.Way r n i i) (step : (Nat → α) → Nat → α) (hloc : ∀ (E E' : Nat → α) (i : Nat), (∀ k, r i k = true → E k = E' k) → step E i = step E' i) (e0 : α) :
    ∃ E : Nat → α, ∀ i, i < n → E i = step E i := by
  have key : ∀ c, c ≤ n → ∃ (D : Nat → Bool) (E : Nat → α), c ≤ cntB D n ∧ (∀ i, i < n → D i = true → ∀ k, r i k = true → D k = true) ∧ ∀ i, i < n → D i = true → E i = step E i := by
    intro c
    induction c with
    | zero => exact fun _ => ⟨fun _ => false, fun _ => e0, Nat.zero_le _, fun _ _ h => (by cases h), fun _ _ h => (by cases h)⟩
    | succ c ih =>
      intro hc
      obtain ⟨D, E, h1, h2, h3⟩ := ih (by omega)
      by_cases hn : cntB D n < n
      · obtain ⟨i, hi, hD⟩ := cntB_not hn
        obtain ⟨k, hk, hUk, hdep⟩ := last_one hr hno (fun j => !D j) hi (by simp [hD])
        have hDk : D k = false := by simpa using hUk
        have hdep2 : ∀ j, r k j = true → D j = true := fun j hj => by simpa using hdep j hj
        have hE : ∀ j, D j = true → (fun x => if x = k then step E k else E x) j = E j := fun j hj => by
          show (if j = k then step E k else E j) = E j
          rw [if_neg (fun e => by rw [e, hDk] at hj; cases hj)]
        refine ⟨fun j => D j || decide (j = k), fun j => if j = k then step E k else E j, ?_, fun j hj hDj q hq => ?_, fun j hj hDj => ?_⟩
        · have : cntB D n < cntB (fun j => D j || decide (j = k)) n := cntB_lt n (fun j _ h => by simp [h]) hk hDk (by simp)
          omega
        · rw [Bool.or_eq_true, decide_eq_true_eq] at hDj
          rw [Bool.or_eq_true]
          left
          rcases hDj with h | rfl
          · exact h2 j hj h q hq
          · exact hdep2 q hq
        · rw [Bool.or_eq_true, decide_eq_true_eq] at hDj
          have hl : ∀ i, (∀ q, r i q = true → D q = true) → step (fun x => if x = k then step E k else E x) i = step E i := fun i h => hloc _ _ i (fun q hq => hE q (h q hq))
          by_cases e : j = k
          · subst e
            rw [hl j hdep2]
            show (if j = j then _ else _) = _
            rw [if_pos rfl]
          · have hDj2 : D j = true := by rcases hDj with h | h; exact h; exact absurd h e
            rw [hl j (h2 j hj hDj2), ← h3 j hj hDj2]
            show (if j = k then _ else _) = _
            rw [if_neg e]
      · exact ⟨D, E, by omega, h2, h3⟩
  obtain ⟨D, E, h1, _, h3⟩ := key n (Nat.le_refl _)
  refine ⟨E, fun i hi => h3 i hi ?_⟩
  cases hD : D i with
  | true => rfl
  | false =>
    exfalso
    have : cntB D n < cntB (fun _ => true) n := cntB_lt n (fun _ _ _ => rfl) hi hD rfl
    have := cntB_le (fun _ => true) n
    omega

end Ru
end Go.Proofs.YtbadplbdgpbdaaaDoor

namespace Go.Proofs.YtbadplbdgpbdaaaDoor
open Go.RowKit
namespace Ru
open Sl (strV Reads)

mutual
/-- an expression at a place -/
def ExprAt (w : World) (B : Nat) : Nat → Nat → Expr → Prop
  | b, o, .mk k x y nm kids => w.cell? ⟨b, o, none⟩ = some (.int .i64 k) ∧ w.cell? ⟨b, o + 1, none⟩ = some (.int .i64 x) ∧ w.cell? ⟨b, o + 2, none⟩ = some (.int .i64 y) ∧ w.cell? ⟨b, o + 3, none⟩ = some (strV nm) ∧ (nm.length ≤ 9223372036854775807 ∧ -9223372036854775808 ≤ k ∧ k ≤ 9223372036854775807) ∧
      ∃ A cap, w.cell? ⟨b, o + 4, none⟩ = some (.slice A kids.length cap) ∧ kids.length ≤ 9223372036854775807 ∧ (kids = [] ∨ ∃ kb ko, A = some ⟨kb, ko, none⟩ ∧ kb < B ∧ KidsAt w B kb ko kids)
def KidsAt (w : World) (B : Nat) : Nat → Nat → List Expr → Prop
  | _, _, [] => True
  | b, o, e :: l => ExprAt w B b o e ∧ KidsAt w B b (o + 5) l
end
/-- a slice's kids -/
def KidsV (w : World) (B : Nat) (A : Option Addr) (kids : List Expr) : Prop := kids = [] ∨ ∃ kb ko, A = some ⟨kb, ko, none⟩ ∧ kb < B ∧ KidsAt w B kb ko kids
theorem ExprAt.out {w : World} {B b o : Nat} {e : Expr} (h : ExprAt w B b o e) : w.cell? ⟨b, o, none⟩ = some (.int .i64 e.kind) ∧ w.cell? ⟨b, o + 1, none⟩ = some (.int .i64 e.a) ∧ w.cell? ⟨b, o + 2, none⟩ = some (.int .i64 e.b) ∧ w.cell? ⟨b, o + 3, none⟩ = some (strV e.name) ∧ (e.name.length ≤ 9223372036854775807 ∧ -9223372036854775808 ≤ e.kind ∧ e.kind ≤ 9223372036854775807) ∧
      ∃ A cap, w.cell? ⟨b, o + 4, none⟩ = some (.slice A e.kids.length cap) ∧ e.kids.length ≤ 9223372036854775807 ∧ KidsV w B A e.kids := by
  cases e
  rw [ExprAt] at h
  exact h
theorem ExprAt.mk' {w : World} {B b o : Nat} {e : Expr} (h0 : w.cell? ⟨b, o, none⟩ = some (.int .i64 e.kind)) (h1 : w.cell? ⟨b, o + 1, none⟩ = some (.int .i64 e.a)) (h2 : w.cell? ⟨b, o + 2, none⟩ = some (.int .i64 e.b)) (h3 : w.cell? ⟨b, o + 3, none⟩ = some (strV e.name)) (h4 : e.name.length ≤ 9223372036854775807 ∧ -9223372036854775808 ≤ e.kind ∧ e.kind ≤ 9223372036854775807)
    {A : Option Addr} {cap : Nat} (h5 : w.cell? ⟨b, o + 4, none⟩ = some (.slice A e.kids.length cap)) (h6 : e.kids.length ≤ 9223372036854775807) (h7 : KidsV w B A e.kids) : ExprAt w B b o e := by
  cases e
  rw [ExprAt]
  exact ⟨h0, h1, h2, h3, h4, A, cap, h5, h6, h7⟩
theorem KidsAt.at' {w : World} {B b : Nat} : ∀ {l : List Expr} {o i : Nat} {e : Expr}, KidsAt w B b o l → l[i]? = some e → ExprAt w B b (o + i * 5) e
  | [], _, _, _, _, h => by simp at h
  | x :: l, o, i, e, h, hi => by
    rw [KidsAt] at h
    cases i with
    | zero => simp at hi; subst hi; simpa using h.1
    | succ i =>
      have := KidsAt.at' h.2 (by simpa using hi)
      rwa [show o + 5 + i * 5 = o + (i + 1) * 5 by omega] at this
theorem KidsV.at' {w : World} {B : Nat} {A : Option Addr} {l : List Expr} (h : KidsV w B A l) {i : Nat} {e : Expr} (hi : l[i]? = some e) : ∃ b o, A = some ⟨b, o, none⟩ ∧ b < B ∧ ExprAt w B b (o + i * 5) e := by
  rcases h with rfl | ⟨b, o, h1, h2, h3⟩
  · simp at hi
  · exact ⟨b, o, h1, h2, h3.at' hi⟩
mutual
theorem ExprAt.below {w w' : World} {B B' B'' : Nat} (hb : Below B' w w') (hB : B ≤ B') (hB2 : B ≤ B'') : ∀ {e : Expr} {b o : Nat}, ExprAt w B b o e → b < B' → ExprAt w' B'' b o e
  | .mk k x y nm kids, b, o, h, hlt => by
    rw [ExprAt] at h ⊢
    obtain ⟨h0, h1, h2, h3, h4, A, cap, h5, h6, h7⟩ := h
    refine ⟨(hb.cell (p := ⟨b, _, none⟩) hlt).trans h0, (hb.cell (p := ⟨b, _, none⟩) hlt).trans h1, (hb.cell (p := ⟨b, _, none⟩) hlt).trans h2, (hb.cell (p := ⟨b, _, none⟩) hlt).trans h3, h4, A, cap, (hb.cell (p := ⟨b, _, none⟩) hlt).trans h5, h6, ?_⟩
    rcases h7 with h7 | ⟨kb, ko, h7, h8, h9⟩
    · exact .inl h7
    · exact .inr ⟨kb, ko, h7, by omega, KidsAt.below hb hB hB2 h9 (by omega)⟩
theorem KidsAt.below {w w' : World} {B B' B'' : Nat} (hb : Below B' w w') (hB : B ≤ B') (hB2 : B ≤ B'') : ∀ {l : List Expr} {b o : Nat}, KidsAt w B b o l → b < B' → KidsAt w' B'' b o l
  | [], _, _, _, _ => by rw [KidsAt]; trivial
  | e :: l, b, o, h, hlt => by
    rw [KidsAt] at h ⊢
    exact ⟨ExprAt.below hb hB hB2 h.1 hlt, KidsAt.below hb hB hB2 h.2 hlt⟩
end
theorem KidsV.below {w w' : World} {B B' B'' : Nat} {A : Option Addr} {l : List Expr} (h : KidsV w B A l) (hb : Below B' w w') (hB : B ≤ B') (hB2 : B ≤ B'') : KidsV w' B'' A l := by
  rcases h with h | ⟨kb, ko, h1, h2, h3⟩
  · exact .inl h
  · exact .inr ⟨kb, ko, h1, by omega, h3.below hb hB hB2 (by omega)⟩
/-- a rule at a place -/
def RuleAt (w : World) (B b o : Nat) (r : Rule) : Prop := w.cell? ⟨b, o, none⟩ = some (strV r.name) ∧ r.name.length ≤ 9223372036854775807 ∧ ExprAt w B b (o + 1) r.expr
theorem RuleAt.below {w w' : World} {B B' B'' b o : Nat} {r : Rule} (h : RuleAt w B b o r) (hb : Below B' w w') (hlt : b < B') (hB : B ≤ B') (hB2 : B ≤ B'') : RuleAt w' B'' b o r :=
  ⟨(hb.cell (p := ⟨b, _, none⟩) hlt).trans h.1, h.2.1, h.2.2.below hb hB hB2 hlt⟩
def RulesV (w : World) (B : Nat) (v : Value) (l : List Rule) : Prop := Reads B v l fun b o i r => RuleAt w B b (o + i * 6) r
theorem RulesV.below {w w' : World} {B B' B'' : Nat} {v : Value} {l : List Rule} (h : RulesV w B v l) (hb : Below B' w w') (hB : B ≤ B') (hB2 : B ≤ B'') : RulesV w' B'' v l :=
  Reads.mono h hB2 fun b o i x hlt _ h1 => RuleAt.below h1 hb (by omega) hB hB2

end Ru
end Go.Proofs.YtbadplbdgpbdaaaDoor

namespace Go.Proofs.YtbadplbdgpbdaaaDoor
namespace Ru
open Msk Vm

/-- of a kind, what it means, by what its kids mean -/
def meanK (wd : Nat) (day k a b : Int) (p : Nat → Bool) (ms : List (Nat → Bool)) : Nat → Bool :=
  if k = 2 then inSpans [(0, 1440)]
  else if k = 3 then inSpans [(a, b)]
  else if k = 4 then (if (bits BinOp.and IntKind.i64 (a / 2 ^ wd) 1 == 1) = true then (ms[0]?).getD noS else noS)
  else if k = 5 then (if (decide (a ≤ day) && decide (day ≤ b)) = true then (ms[0]?).getD noS else noS)
  else if k = 6 then orS ((ms[0]?).getD noS) ((ms[1]?).getD noS)
  else if k = 7 then sansS ((ms[0]?).getD noS) ((ms[1]?).getD noS)
  else if k = 8 then andS ((ms[0]?).getD noS) ((ms[1]?).getD noS)
  else if k = 9 then shS (has (setW ((ms[0]?).getD noS))) a
  else if k = 10 then p
  else noS
mutual
def meanE (wd : Nat) (day : Int) (env : List UInt8 → Nat → Bool) : Expr → Nat → Bool
  | .mk k a b nm kids => meanK wd day k a b (env nm) (meanL wd day env kids)
def meanL (wd : Nat) (day : Int) (env : List UInt8 → Nat → Bool) : List Expr → List (Nat → Bool)
  | [] => []
  | e :: l => meanE wd day env e :: meanL wd day env l
end
theorem meanE_eq (wd : Nat) (day : Int) (env : List UInt8 → Nat → Bool) (e : Expr) : meanE wd day env e = meanK wd day e.kind e.a e.b (env e.name) (meanL wd day env e.kids) := by
  cases e
  rw [meanE]
  rfl
theorem meanL_at (wd : Nat) (day : Int) (env : List UInt8 → Nat → Bool) : ∀ {l : List Expr} {i : Nat} {e : Expr}, l[i]? = some e → (meanL wd day env l)[i]? = some (meanE wd day env e)
  | [], _, _, h => by simp at h
  | x :: l, i, e, h => by
    rw [meanL]
    cases i with
    | zero => simp at h; subst h; rfl
    | succ i => simpa using meanL_at wd day env (by simpa using h)
theorem meanK_name {wd : Nat} {day k a b : Int} {p q : Nat → Bool} {ms : List (Nat → Bool)} (h : k ≠ 10) : meanK wd day k a b p ms = meanK wd day k a b q ms := by
  unfold meanK
  simp only [if_neg h]
theorem meanK_ten {wd : Nat} {day a b : Int} {p : Nat → Bool} {ms : List (Nat → Bool)} : meanK wd day 10 a b p ms = p := by
  unfold meanK
  rw [if_neg (by decide), if_neg (by decide), if_neg (by decide), if_neg (by decide), if_neg (by decide), if_neg (by decide), if_neg (by decide), if_neg (by decide), if_pos rfl]
mutual
theorem meanE_loc {wd : Nat} {day : Int} {env env' : List UInt8 → Nat → Bool} : ∀ (e : Expr), (∀ nm ∈ namesE e, env nm = env' nm) → meanE wd day env e = meanE wd day env' e
  | .mk k a b nm kids, h => by
    rw [meanE, meanE]
    rw [namesE] at h
    by_cases hk : k = 10
    · rw [if_pos hk] at h
      rw [h nm (by simp), hk, meanK_ten, meanK_ten]
    · rw [if_neg hk] at h
      rw [meanL_loc kids h]
      exact meanK_name hk
theorem meanL_loc {wd : Nat} {day : Int} {env env' : List UInt8 → Nat → Bool} : ∀ (l : List Expr), (∀ nm ∈ namesL l, env nm = env' nm) → meanL wd day env l = meanL wd day env' l
  | [], _ => by rw [meanL, meanL]
  | e :: l, h => by
    rw [meanL, meanL]
    rw [namesL] at h
    rw [meanE_loc e (fun nm hn => h nm (List.mem_append_left _ hn)), meanL_loc l (fun nm hn => h nm (List.mem_append_right _ hn))]
end
/-- what all rules mean: each what its expression means, where names stand for what theirs mean -/
def Means (wd : Nat) (day : Int) (l : List Rule) (env : List UInt8 → Nat → Bool) : Prop := ∀ (i : Nat) (r : Rule), l[i]? = some r → env r.name = meanE wd day env r.expr
/-- right rules: names once, all known, no rings -/
structure RightR (l : List Rule) : Prop where
  once : ∀ (i : Nat) (r : Rule), l[i]? = some r → placeR l r.name = i
  known : ∀ (i : Nat) (r : Rule), l[i]? = some r → ∀ nm ∈ namesE r.expr, placeR l nm < l.length
  noring : ∀ i, i < l.length → ¬ Wal.Way (stepB (directR l)) l.length i i
theorem directR_at2 {l : List Rule} {i : Nat} {r : Rule} (h : l[i]? = some r) : directR l i = (namesE r.expr).map (findI l) := by
  unfold directR
  rw [h]
  rfl
theorem findI_nat {l : List Rule} {nm : List UInt8} (h : placeR l nm < l.length) : findI l nm = (placeR l nm : Nat) := if_pos h
theorem stepB_lt {l : List Rule} {i k : Nat} (h : stepB (directR l) i k = true) : k < l.length := by
  unfold stepB directR at h
  rw [List.contains_iff_mem] at h
  obtain ⟨nm, _, e⟩ := List.mem_map.1 h
  have := findI_range l nm
  omega
theorem means_exists (wd : Nat) (day : Int) {l : List Rule} (hR : RightR l) : ∃ env, Means wd day l env := by
  obtain ⟨E, hE⟩ := fix_exists (r := stepB (directR l)) (n := l.length) (fun i k h => stepB_lt h) hR.noring
    (fun (E : Nat → Nat → Bool) i => match l[i]? with | some r => meanE wd day (fun nm => if placeR l nm < l.length then E (placeR l nm) else noS) r.expr | none => noS)
    (fun E E' i h => by
      cases hi : l[i]? with
      | none => rfl
      | some r =>
        refine meanE_loc r.expr fun nm hn => ?_
        have hk := hR.known i r hi nm hn
        rw [if_pos hk, if_pos hk]
        refine h _ ?_
        unfold stepB
        rw [directR_at2 hi, List.contains_iff_mem]
        exact List.mem_map.2 ⟨nm, hn, findI_nat hk⟩) noS
  refine ⟨fun nm => if placeR l nm < l.length then E (placeR l nm) else noS, fun i r hi => ?_⟩
  have h1 := hR.once i r hi
  have h2 := (List.getElem?_eq_some_iff.1 hi).1
  have h3 := hE i h2
  rw [hi] at h3
  show (if placeR l r.name < l.length then E (placeR l r.name) else noS) = _
  rw [if_pos (by omega), h1]
  exact h3

end Ru
end Go.Proofs.YtbadplbdgpbdaaaDoor
