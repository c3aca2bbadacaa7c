/- The law of chapter 6 that a name stands for its rule: slotlaw6.MeanNames. -/
import Derived.Test.YtfhedopfjgjffaaWth
import Derived.Test.YtfhedopfjgjffaaAlx
import Derived.Deep.AppendLies
namespace Go.Proofs.Ytfhedopfjgjffaa
open Go.RowKit
namespace Ru
open Lx Msk Vm
open Sl (strV Reads IntsV MasksV)

mutual
/-- an expression in the place of a name -/
def substE (nm : List UInt8) (e0 : Expr) : Expr → Expr
  | .mk k a b name kids => if k = 10 ∧ name = nm then e0 else .mk k a b name (substL nm e0 kids)
def substL (nm : List UInt8) (e0 : Expr) : List Expr → List Expr
  | [] => []
  | e :: l => substE nm e0 e :: substL nm e0 l
end
theorem substL_map (nm : List UInt8) (e0 : Expr) : ∀ l : List Expr, substL nm e0 l = l.map (substE nm e0)
  | [] => by rw [substL]; rfl
  | e :: l => by rw [substL, substL_map nm e0 l]; rfl
mutual
/-- is each node right by itself? -/
def okT : Expr → Bool
  | .mk k a b nm kids => decide (ownErr isName (.mk k a b nm kids) = 0) && okTL kids
def okTL : List Expr → Bool
  | [] => true
  | e :: l => okT e && okTL l
end
mutual
theorem form_okT : ∀ (e : Expr) (deep n : Nat), (formE isName e deep n).1 = 0 → okT e = true
  | .mk k a b nm kids, deep, n, h => by
    rw [formE] at h
    rw [okT]
    split at h
    · cases h
    · split at h
      · rename_i h1
        rw [form_okTL kids _ _ h, Bool.and_true]
        simpa using h1
      · rename_i h1
        exact absurd h h1
theorem form_okTL : ∀ (l : List Expr) (deep n : Nat), (formL isName l deep n).1 = 0 → okTL l = true
  | [], _, _, _ => by rw [okTL]
  | e :: l, deep, n, h => by
    rw [formL] at h
    rw [okTL]
    split at h
    · rename_i h1
      rw [form_okT e _ _ h1, form_okTL l _ _ h]
      rfl
    · rename_i h1
      exact absurd h h1
end
mutual
theorem okT_form : ∀ (e : Expr) (deep n : Nat), okT e = true → (formE isName e deep n).1 = 0 ∨ (formE isName e deep n).1 = 4
  | .mk k a b nm kids, deep, n, h => by
    rw [okT, Bool.and_eq_true] at h
    rw [formE]
    split
    · exact .inr rfl
    · rw [if_pos (by simpa using h.1)]
      exact okTL_form kids _ _ h.2
theorem okTL_form : ∀ (l : List Expr) (deep n : Nat), okTL l = true → (formL isName l deep n).1 = 0 ∨ (formL isName l deep n).1 = 4
  | [], _, _, _ => by rw [formL]; exact .inl rfl
  | e :: l, deep, n, h => by
    rw [okTL, Bool.and_eq_true] at h
    rw [formL]
    split
    · exact okTL_form l _ _ h.2
    · exact okT_form e _ _ h.1
end
mutual
theorem subst_okT {nm : List UInt8} {e0 : Expr} (h0 : okT e0 = true) : ∀ (e : Expr), okT e = true → okT (substE nm e0 e) = true
  | .mk k a b name kids, h => by
    rw [substE]
    split
    · exact h0
    · rw [okT, Bool.and_eq_true] at h
      rw [okT, Bool.and_eq_true]
      refine ⟨?_, subst_okTL h0 kids h.2⟩
      have h1 : ownErr isName (.mk k a b name kids) = 0 := by simpa using h.1
      have h2 : ownErr isName (.mk k a b name (substL nm e0 kids)) = ownErr isName (.mk k a b name kids) := by
        rw [ownErr_mk, ownErr_mk, substL_map, List.length_map]
      rw [h2]
      simpa using h1
theorem subst_okTL {nm : List UInt8} {e0 : Expr} (h0 : okT e0 = true) : ∀ (l : List Expr), okTL l = true → okTL (substL nm e0 l) = true
  | [], _ => by rw [substL, okTL]
  | e :: l, h => by
    rw [okTL, Bool.and_eq_true] at h
    rw [substL, okTL, subst_okT h0 e h.1, subst_okTL h0 l h.2]
    rfl
end
mutual
theorem subst_names {nm : List UInt8} {e0 : Expr} {x : List UInt8} : ∀ (e : Expr), x ∈ namesE (substE nm e0 e) → x ∈ namesE e ∨ (nm ∈ namesE e ∧ x ∈ namesE e0)
  | .mk k a b name kids, h => by
    rw [substE] at h
    split at h
    · rename_i h1
      refine .inr ⟨?_, h⟩
      rw [namesE, if_pos h1.1, h1.2]
      exact List.mem_singleton.2 rfl
    · rw [namesE] at h ⊢
      by_cases hk : k = 10
      · rw [if_pos hk] at h ⊢
        exact .inl h
      · rw [if_neg hk] at h ⊢
        exact subst_namesL kids h
theorem subst_namesL {nm : List UInt8} {e0 : Expr} {x : List UInt8} : ∀ (l : List Expr), x ∈ namesL (substL nm e0 l) → x ∈ namesL l ∨ (nm ∈ namesL l ∧ x ∈ namesE e0)
  | [], h => by rw [substL] at h; exact .inl h
  | e :: l, h => by
    rw [substL, namesL] at h
    rw [namesL]
    rcases List.mem_append.1 h with h | h
    · rcases subst_names e h with h | h
      · exact .inl (List.mem_append_left _ h)
      · exact .inr ⟨List.mem_append_left _ h.1, h.2⟩
    · rcases subst_namesL l h with h | h
      · exact .inl (List.mem_append_right _ h)
      · exact .inr ⟨List.mem_append_right _ h.1, h.2⟩
end
mutual
theorem subst_mean {nm : List UInt8} {e0 : Expr} {wd : Nat} {day : Int} {env : List UInt8 → Nat → Bool} (h0 : env nm = meanE wd day env e0) : ∀ (e : Expr), meanE wd day env (substE nm e0 e) = meanE wd day env e
  | .mk k a b name kids => by
    rw [substE]
    split
    · rename_i h1
      rw [← h0, meanE, h1.1, meanK_ten, h1.2]
    · rw [meanE, meanE, subst_meanL h0 kids]
theorem subst_meanL {nm : List UInt8} {e0 : Expr} {wd : Nat} {day : Int} {env : List UInt8 → Nat → Bool} (h0 : env nm = meanE wd day env e0) : ∀ (l : List Expr), meanL wd day env (substL nm e0 l) = meanL wd day env l
  | [] => by rw [substL]
  | e :: l => by rw [substL, meanL, meanL, subst_mean h0 e, subst_meanL h0 l]
end

theorem firstErr_map {α : Type} {f g : Nat → α → Int} (t : α → α) : ∀ (l : List α) (i : Nat), (∀ j c, l[j]? = some c → f (i + j) (t c) = g (i + j) c) → firstErr f i (l.map t) = firstErr g i l
  | [], _, _ => rfl
  | c :: cs, i, h => by
    have h0 := h 0 c rfl
    rw [Nat.add_zero] at h0
    have ih := firstErr_map (f := f) (g := g) t cs (i + 1) (fun j d hd => by rw [show i + 1 + j = i + (j + 1) by omega]; exact h (j + 1) d (by simpa using hd))
    rw [List.map_cons, firstErr, firstErr, h0, ih]
theorem firstErr_in {α : Type} {f : Nat → α → Int} (Q : Int → Prop) (q0 : Q 0) : ∀ (l : List α) (i : Nat), (∀ j c, l[j]? = some c → Q (f (i + j) c)) → Q (firstErr f i l).1
  | [], _, _ => q0
  | c :: cs, i, h => by
    rw [firstErr]
    split
    · exact firstErr_in Q q0 cs (i + 1) fun j d hd => by rw [show i + 1 + j = i + (j + 1) by omega]; exact h (j + 1) d (by simpa using hd)
    · have := h 0 c rfl
      rwa [Nat.add_zero] at this

/-- rules with one written out -/
def substR (l : List Rule) (nm : List UInt8) (e0 : Expr) : List Rule := l.map fun r => ⟨r.name, substE nm e0 r.expr⟩
theorem subst_at {l : List Rule} {nm : List UInt8} {e0 : Expr} {i : Nat} {r : Rule} (h : l[i]? = some r) : (substR l nm e0)[i]? = some ⟨r.name, substE nm e0 r.expr⟩ := by
  unfold substR
  rw [List.getElem?_map, h]
  rfl
theorem subst_find (l : List Rule) (nm : List UInt8) (e0 : Expr) (x : List UInt8) : findI (substR l nm e0) x = findI l x := by
  have hp : placeR (substR l nm e0) x = placeR l x := by
    unfold placeR substR
    rw [List.findIdx_map]
    rfl
  unfold findI
  rw [hp]
  unfold substR
  rw [List.length_map]
theorem subst_right {l : List Rule} (hw : (wrongR l).1 = 0) {i : Nat} {q : Rule} (hq : l[i]? = some q) : (wrongR (substR l q.name q.expr)).1 = 0 ∨ (wrongR (substR l q.name q.expr)).1 = 4 := by
  have hR := right_of hw
  have h40 := (form_right (wrong_form hw)).1
  have hlen : (substR l q.name q.expr).length = l.length := by unfold substR; rw [List.length_map]
  have hF0 : firstErr (fun _ => ruleErr isName) 0 l = (firstErr (fun _ => ruleErr isName) 0 l) := rfl
  have hFz : (firstErr (fun _ => ruleErr isName) 0 l).1 = 0 := by
    have := wrong_form hw
    unfold wrongF at this
    rwa [if_neg (by omega)] at this
  have hrule : ∀ (j : Nat) (r : Rule), l[j]? = some r → isName r.name = true ∧ okT r.expr = true := fun j r hr => by
    have := firstErr_zero _ _ _ hFz j r hr
    unfold ruleErr at this
    split at this
    · rename_i h; exact ⟨h, form_okT _ _ _ this⟩
    · cases this
  have hF : (wrongF (substR l q.name q.expr)).1 = 0 ∨ (wrongF (substR l q.name q.expr)).1 = 4 := by
    unfold wrongF
    rw [if_neg (by omega)]
    refine firstErr_in (fun x => x = 0 ∨ x = 4) (.inl rfl) _ 0 fun j c hc => ?_
    have hj : j < l.length := by have := (List.getElem?_eq_some_iff.1 hc).1; omega
    rw [subst_at (List.getElem?_eq_getElem hj)] at hc
    cases hc
    have h1 := hrule j _ (List.getElem?_eq_getElem hj)
    unfold ruleErr
    rw [if_pos h1.1]
    exact okT_form _ _ _ (subst_okT (hrule i q hq).2 _ h1.2)
  unfold wrongR
  rcases hF with hF | hF
  · left
    rw [if_pos hF]
    have hd : firstErr (dupErr (substR l q.name q.expr)) 0 (substR l q.name q.expr) = firstErr (dupErr l) 0 l := firstErr_map _ l 0 fun j c hc => by
      unfold dupErr
      rw [subst_find]
    have hdz : (firstErr (dupErr l) 0 l).1 = 0 := firstErr_in (fun x => x = 0) rfl l 0 fun j c hc => by
      rw [Nat.zero_add, dup_place hc, if_pos (by
        have := hR.once j c hc
        rw [findI_nat (by have := (List.getElem?_eq_some_iff.1 hc).1; omega), this])]
    have hstep : ∀ j k, stepB (directR (substR l q.name q.expr)) j k = true → Wal.Way (stepB (directR l)) l.length j k := fun j k h => by
      have hj : j < l.length := by
        apply Decidable.byContradiction
        intro hn
        unfold stepB directR at h
        rw [List.getElem?_eq_none (by omega)] at h
        cases h
      have hr := List.getElem?_eq_getElem hj
      unfold stepB at h
      rw [directR_at2 (subst_at hr), List.contains_iff_mem] at h
      obtain ⟨x, hx, e⟩ := List.mem_map.1 h
      rw [subst_find] at e
      have hk : placeR l x < l.length ∧ placeR l x = k := by
        unfold findI at e
        split at e
        · exact ⟨by assumption, by omega⟩
        · omega
      rcases subst_names _ hx with hx | ⟨h1, h2⟩
      · have := step_of hr hx hk.1
        rw [hk.2] at this
        exact .one this
      · have s1 := step_of hr h1 (by have := hR.once i q hq; have := (List.getElem?_eq_some_iff.1 hq).1; omega)
        rw [hR.once i q hq] at s1
        have s2 := step_of hq h2 hk.1
        rw [hk.2] at s2
        exact .cons s1 (List.getElem?_eq_some_iff.1 hq).1 (.one s2)
    have hn : (firstErr (fun i _ => noneErr (substR l q.name q.expr) i) 0 (substR l q.name q.expr)).1 = 0 := firstErr_in (fun x => x = 0) rfl _ 0 fun j c hc => by
      have hj : j < l.length := by have := (List.getElem?_eq_some_iff.1 hc).1; omega
      have hr := List.getElem?_eq_getElem hj
      rw [Nat.zero_add]
      unfold noneErr
      rw [directR_at2 (subst_at hr), if_neg]
      intro hcon
      rw [List.contains_iff_mem] at hcon
      obtain ⟨x, hx, e⟩ := List.mem_map.1 hcon
      rw [subst_find] at e
      have hk : placeR l x < l.length := by
        rcases subst_names _ hx with hx | ⟨_, h2⟩
        · exact hR.known j _ hr x hx
        · exact hR.known i q hq x h2
      rw [findI_nat hk] at e
      omega
    have hr0 : (firstErr (fun i _ => ringErr (substR l q.name q.expr) i) 0 (substR l q.name q.expr)).1 = 0 := firstErr_in (fun x => x = 0) rfl _ 0 fun j c hc => by
      have hj : j < l.length := by have := (List.getElem?_eq_some_iff.1 hc).1; omega
      rw [Nat.zero_add]
      unfold ringErr
      rw [if_neg]
      intro hwal
      have hway := (Wal.wal_way _ _ _ _).1 hwal
      rw [hlen] at hway
      have key : ∀ {a b : Nat}, Wal.Way (stepB (directR (substR l q.name q.expr))) l.length a b → Wal.Way (stepB (directR l)) l.length a b := fun h => by
        induction h with
        | one h => exact hstep _ _ h
        | cons h hj _ ih => exact (hstep _ _ h).append hj ih
      exact hR.noring j hj (key hway)
    rw [hd, if_pos hdz, if_pos hn]
    exact hr0
  · right
    rw [if_neg (by omega)]
    exact hF
theorem subst_means {l : List Rule} {wd : Nat} {day : Int} {env : List UInt8 → Nat → Bool} (hM : Means wd day l env) {i : Nat} {q : Rule} (hq : l[i]? = some q) : Means wd day (substR l q.name q.expr) env := fun j r hr => by
  have hj : j < l.length := by
    have := (List.getElem?_eq_some_iff.1 hr).1
    unfold substR at this
    rwa [List.length_map] at this
  have h := List.getElem?_eq_getElem hj
  rw [subst_at h] at hr
  cases hr
  rw [hM j _ h]
  exact (subst_mean (hM i q hq) _).symm

/-! ### Expressions in a set of blocks -/
mutual
def XIn (w : World) (S : Nat → Prop) : Nat → Nat → Expr → Prop
  | b, o, .mk k x y nm kids => w.cell? ⟨b, o, none⟩ = some (.int .i64 k) ∧ w.cell? ⟨b, o + 1, none⟩ = some (.int .i64 x) ∧ w.cell? ⟨b, o + 2, none⟩ = some (.int .i64 y) ∧ w.cell? ⟨b, o + 3, none⟩ = some (strV nm) ∧ (nm.length ≤ 9223372036854775807 ∧ -9223372036854775808 ≤ k ∧ k ≤ 9223372036854775807) ∧
      ∃ A cap, w.cell? ⟨b, o + 4, none⟩ = some (.slice A kids.length cap) ∧ kids.length ≤ 9223372036854775807 ∧ (kids = [] ∨ ∃ kb ko, A = some ⟨kb, ko, none⟩ ∧ S kb ∧ XInL w S kb ko kids)
def XInL (w : World) (S : Nat → Prop) : Nat → Nat → List Expr → Prop
  | _, _, [] => True
  | b, o, e :: l => XIn w S b o e ∧ XInL w S b (o + 5) l
end
mutual
theorem XIn.keep {w w' : World} {S S' : Nat → Prop} (hS : ∀ k, S k → w'.heap[k]? = w.heap[k]? ∧ S' k) : ∀ {e : Expr} {b o : Nat}, XIn w S b o e → w'.heap[b]? = w.heap[b]? → XIn w' S' b o e
  | .mk k x y nm kids, b, o, h, hb => by
    rw [XIn] at h ⊢
    obtain ⟨h0, h1, h2, h3, h4, A, cap, h5, h6, h7⟩ := h
    have c : ∀ q, w'.cell? ⟨b, q, none⟩ = w.cell? ⟨b, q, none⟩ := fun q => World.cell?_of_block hb
    refine ⟨(c _).trans h0, (c _).trans h1, (c _).trans h2, (c _).trans h3, h4, A, cap, (c _).trans h5, h6, ?_⟩
    rcases h7 with h7 | ⟨kb, ko, h7, h8, h9⟩
    · exact .inl h7
    · exact .inr ⟨kb, ko, h7, (hS kb h8).2, XInL.keep hS h9 (hS kb h8).1⟩
theorem XInL.keep {w w' : World} {S S' : Nat → Prop} (hS : ∀ k, S k → w'.heap[k]? = w.heap[k]? ∧ S' k) : ∀ {l : List Expr} {b o : Nat}, XInL w S b o l → w'.heap[b]? = w.heap[b]? → XInL w' S' b o l
  | [], _, _, _, _ => by rw [XInL]; trivial
  | e :: l, b, o, h, hb => by
    rw [XInL] at h ⊢
    exact ⟨XIn.keep hS h.1 hb, XInL.keep hS h.2 hb⟩
end
mutual
theorem XIn.at' {w : World} {S : Nat → Prop} {B : Nat} (hS : ∀ k, S k → k < B) : ∀ {e : Expr} {b o : Nat}, XIn w S b o e → ExprAt w B b o e
  | .mk k x y nm kids, b, o, h => by
    rw [XIn] at h
    rw [ExprAt]
    obtain ⟨h0, h1, h2, h3, h4, A, cap, h5, h6, h7⟩ := h
    refine ⟨h0, h1, h2, h3, h4, A, cap, h5, h6, ?_⟩
    rcases h7 with h7 | ⟨kb, ko, h7, h8, h9⟩
    · exact .inl h7
    · exact .inr ⟨kb, ko, h7, hS kb h8, XInL.at' hS h9⟩
theorem XInL.at' {w : World} {S : Nat → Prop} {B : Nat} (hS : ∀ k, S k → k < B) : ∀ {l : List Expr} {b o : Nat}, XInL w S b o l → KidsAt w B b o l
  | [], _, _, _ => by rw [KidsAt]; trivial
  | e :: l, b, o, h => by
    rw [XInL] at h
    rw [KidsAt]
    exact ⟨XIn.at' hS h.1, XInL.at' hS h.2⟩
end
mutual
theorem ExprAt.xin {w : World} {B : Nat} : ∀ {e : Expr} {b o : Nat}, ExprAt w B b o e → XIn w (fun k => k < B) b o e
  | .mk k x y nm kids, b, o, h => by
    rw [ExprAt] at h
    rw [XIn]
    obtain ⟨h0, h1, h2, h3, h4, A, cap, h5, h6, h7⟩ := h
    refine ⟨h0, h1, h2, h3, h4, A, cap, h5, h6, ?_⟩
    rcases h7 with h7 | ⟨kb, ko, h7, h8, h9⟩
    · exact .inl h7
    · exact .inr ⟨kb, ko, h7, h8, KidsAt.xin h9⟩
theorem KidsAt.xin {w : World} {B : Nat} : ∀ {l : List Expr} {b o : Nat}, KidsAt w B b o l → XInL w (fun k => k < B) b o l
  | [], _, _, _ => by rw [XInL]; trivial
  | e :: l, b, o, h => by
    rw [KidsAt] at h
    rw [XInL]
    exact ⟨ExprAt.xin h.1, KidsAt.xin h.2⟩
end
/-- an expression whose kids lie in a set of blocks -/
def XOk (w : World) (S : Nat → Prop) (e : Expr) (A : Option Addr) : Prop := (e.name.length ≤ 9223372036854775807 ∧ -9223372036854775808 ≤ e.kind ∧ e.kind ≤ 9223372036854775807) ∧ e.kids.length ≤ 9223372036854775807 ∧ (e.kids = [] ∨ ∃ kb ko, A = some ⟨kb, ko, none⟩ ∧ S kb ∧ XInL w S kb ko e.kids)
theorem XOk.keep {w w' : World} {S S' : Nat → Prop} {e : Expr} {A : Option Addr} (h : XOk w S e A) (hS : ∀ k, S k → w'.heap[k]? = w.heap[k]? ∧ S' k) : XOk w' S' e A :=
  ⟨h.1, h.2.1, h.2.2.imp id fun ⟨kb, ko, h1, h2, h3⟩ => ⟨kb, ko, h1, (hS kb h2).2, XInL.keep hS h3 (hS kb h2).1⟩⟩
theorem XOk.put {w : World} {S : Nat → Prop} {e : Expr} {A : Option Addr} {cap b o : Nat} (h : XOk w S e A) (c0 : w.cell? ⟨b, o, none⟩ = some (.int .i64 e.kind)) (c1 : w.cell? ⟨b, o + 1, none⟩ = some (.int .i64 e.a)) (c2 : w.cell? ⟨b, o + 2, none⟩ = some (.int .i64 e.b)) (c3 : w.cell? ⟨b, o + 3, none⟩ = some (strV e.name)) (c4 : w.cell? ⟨b, o + 4, none⟩ = some (.slice A e.kids.length cap)) : XIn w S b o e := by
  cases e
  rw [XIn]
  exact ⟨c0, c1, c2, c3, h.1, A, cap, c4, h.2⟩
theorem XOk.ep {w : World} {S : Nat → Prop} {B : Nat} {e : Expr} {A : Option Addr} (h : XOk w S e A) (hS : ∀ k, S k → k < B) : (e.name.length ≤ 9223372036854775807 ∧ -9223372036854775808 ≤ e.kind ∧ e.kind ≤ 9223372036854775807) ∧ e.kids.length ≤ 9223372036854775807 ∧ KidsV w B A e.kids :=
  ⟨h.1, h.2.1, h.2.2.imp id fun ⟨kb, ko, h1, h2, h3⟩ => ⟨kb, ko, h1, hS kb h2, XInL.at' hS h3⟩⟩
theorem xinL_of {w : World} {S : Nat → Prop} {b : Nat} : ∀ {l : List Expr} {o : Nat}, (∀ (i : Nat) (e : Expr), l[i]? = some e → XIn w S b (o + i * 5) e) → XInL w S b o l
  | [], o, h => by rw [XInL]; trivial
  | x :: l, o, h => by
    rw [XInL]
    refine ⟨by simpa using h 0 x rfl, xinL_of fun i e he => ?_⟩
    have := h (i + 1) e (by simpa using he)
    rwa [show o + 5 + i * 5 = o + (i + 1) * 5 by omega]

/-- kids in a row of one's own; theirs lie elsewhere -/
def exprC (y : Expr × Option Addr × Nat) : List Value := [.int .i64 y.1.kind, .int .i64 y.1.a, .int .i64 y.1.b, strV y.1.name, .slice y.2.1 y.1.kids.length y.2.2]
/-- below the rules, or made since, but not the row -/
def SetK (lo base : Nat) (v : Value) (w : World) : Nat → Prop := fun k => k < lo ∨ (base ≤ k ∧ k < w.heap.size ∧ v.ownBlock ≠ some k)
structure KRow (w : World) (lo base : Nat) (v : Value) (es : List Expr) (ys : List (Expr × Option Addr × Nat)) : Prop where
  eq : ys.map (·.1) = es
  own : w.ownsRow base 38 5 v ys.length (ys.flatMap exprC)
  ok : ∀ y ∈ ys, XOk w (SetK lo base v w) y.1 y.2.1
theorem KRow.nil (w : World) (lo base : Nat) : KRow w lo base (.slice none 0 0) [] [] := ⟨rfl, World.ownsRow_nil _ _ _ _, fun y hy => by cases hy⟩
theorem KRow.keep {w w' : World} {lo base : Nat} {v : Value} {es : List Expr} {ys : List (Expr × Option Addr × Nat)} (h : KRow w lo base v es ys) (hb : Below w.heap.size w w') (hl : lo ≤ w.heap.size) : KRow w' lo base v es ys := by
  refine ⟨h.eq, own_keep h.own hb (Nat.le_refl _), fun y hy => (h.ok y hy).keep fun k hk => ?_⟩
  have hz := hb.size
  rcases hk with hk | ⟨h1, h2, h3⟩
  · exact ⟨hb.block k (by omega), .inl hk⟩
  · exact ⟨hb.block k h2, .inr ⟨h1, by omega, h3⟩⟩
theorem kids_le : ∀ l : List Expr, l.length ≤ nodesL l
  | [] => Nat.zero_le _
  | e :: l => by
    rw [nodesL, List.length_cons]
    have := kids_le l
    have := nodesE_pos e
    omega
theorem el_expr : El Try.prog 36 38 5 64 := El.mk' Try.underlying36 (by kernel_rfl) (by omega)
theorem wpList_kid {W : World} {ops : Array Oper} {rest : List Oper} {o : Oper} {a : Act} {Q : Exit → Act → World → Prop} (hgd : o.guard = none) (s x : Operand)
    (ho : o.op = .call { callee := .builtin .append, args := #[s, x], argTypes := #[36, 36] })
    (lo base : Nat) (v : Value) (es : List Expr) (ys : List (Expr × Option Addr × Nat)) (hR : KRow W lo base v es ys) (hn : es.length ≤ 1000000) (y : Expr × Option Addr × Nat) (te : TypeId) (hs : a.eval s = v) (hx : a.eval x = .slice (some ⟨W.heap.size, 0, none⟩) 1 1)
    (hy : XOk W (SetK lo base v W) y.1 y.2.1) (hlo : lo ≤ base) (hbase : base ≤ W.heap.size)
    (h : ∀ g c w', KRow w' lo base (.slice (some ⟨g, 0, none⟩) (es.length + 1) c) (es ++ [y.1]) (ys ++ [y]) → Below base W w' → W.heap.size < w'.heap.size → base ≤ g → g < w'.heap.size → wpList Try.prog ops Q rest (a.put o.dst (.slice (some ⟨g, 0, none⟩) (es.length + 1) c)) w') :
    wpList Try.prog ops Q (o :: rest) a (W.alloc (.cells #[.int .i64 y.1.kind, .int .i64 y.1.a, .int .i64 y.1.b, strV y.1.name, .slice y.2.1 y.1.kids.length y.2.2] te)) := by
  have hl : ys.length = es.length := by rw [← hR.eq, List.length_map]
  obtain ⟨i, z, hi, hz, hsi, hby, hzs⟩ := el_expr.inf
  have hbl : base ≤ (W.alloc (.cells #[.int .i64 y.1.kind, .int .i64 y.1.a, .int .i64 y.1.b, strV y.1.name, .slice y.2.1 y.1.kids.length y.2.2] te)).heap.size := by simp; omega
  refine wpList_append_lies _ hgd s x 36 ho base 38 i z 5 64 el_expr.sl hi hz hsi hby hzs el_expr.pos v ys.length (ys.flatMap exprC) hs (hR.own.alloc _) ⟨W.heap.size, 0, none⟩ 1 1 (exprC y) hx rfl (fun j u hu => ?_) (by simp [exprC, strV, Value.oneCell']) (by omega) (by simp only [maxLen]; omega) (by omega) hbl _ rfl ?_
  · have := (Blk.new W te #[.int .i64 y.1.kind, .int .i64 y.1.a, .int .i64 y.1.b, strV y.1.name, .slice y.2.1 y.1.kids.length y.2.2]).cell j
    rw [Addr.add_lit, Nat.zero_add, this]
    simpa [exprC] using hu
  · intro g cap w' h2 h3 h4 h5
    have hb := own_below hbl (hR.own.alloc (.cells #[.int .i64 y.1.kind, .int .i64 y.1.a, .int .i64 y.1.b, strV y.1.name, .slice y.2.1 y.1.kids.length y.2.2] te)) h3
    have hz := h3.size
    simp at hz
    have hg : base ≤ g := by
      rcases h2.2 with ⟨e, _⟩ | ⟨g', cap', cur, e, hbg, _⟩
      · cases e
      · cases e; exact hbg
    have key : ∀ k, SetK lo base v W k → w'.heap[k]? = W.heap[k]? ∧ SetK lo base (.slice (some ⟨g, 0, none⟩) (es.length + 1) cap) w' k := fun k hk => by
      have e1 : ∀ (k : Nat), k < W.heap.size → (W.alloc (.cells #[.int .i64 y.1.kind, .int .i64 y.1.a, .int .i64 y.1.b, strV y.1.name, .slice y.2.1 y.1.kids.length y.2.2] te)).heap[k]? = W.heap[k]? := fun k hk => ((Below.refl W.heap.size W).alloc (Nat.le_refl _) _).block k hk
      have own := fun k => hR.own.lt k
      rcases hk with hk | ⟨h6, h7, h8⟩
      · refine ⟨(h3.block k (by simp; omega) (fun e => by have := own k e.symm; omega)).trans (e1 k (by omega)), .inl hk⟩
      · refine ⟨(h3.block k (by simp; omega) (fun e => h8 e.symm)).trans (e1 k h7), .inr ⟨h6, by omega, ?_⟩⟩
        intro e
        have e : g = k := by simpa [Value.ownBlock] using e
        rcases h4 with h4 | h4
        · exact h8 (by rw [h4, e])
        · rw [World.size_alloc] at h4
          omega
    rw [hl] at h2
    have hfin : KRow w' lo base (.slice (some ⟨g, 0, none⟩) (es.length + 1) cap) (es ++ [y.1]) (ys ++ [y]) := ⟨by rw [List.map_append, hR.eq]; rfl, by rw [List.length_append, List.length_singleton, hl, List.flatMap_append]; simpa using h2, fun z hz2 => by
      rcases List.mem_append.1 hz2 with h6 | h6
      · exact (hR.ok z h6).keep key
      · rw [List.mem_singleton] at h6
        subst h6
        exact hy.keep key⟩
    rw [hl]
    exact h g cap w' hfin (((Below.refl base W).alloc hbase _).trans hb) (by omega) hg h5
/-- the row as an expression's kids -/
theorem KRow.kids {w : World} {lo base : Nat} {v : Value} {es : List Expr} {ys : List (Expr × Option Addr × Nat)} (h : KRow w lo base v es ys) (hn : es.length ≤ 1000000) : ∃ A cap, v = .slice A es.length cap ∧ es.length ≤ 9223372036854775807 ∧ (es = [] ∨ ∃ kb ko, A = some ⟨kb, ko, none⟩ ∧ (base ≤ kb ∧ kb < w.heap.size) ∧ XInL w (fun k => k < lo ∨ (base ≤ k ∧ k < w.heap.size)) kb ko es) := by
  have hl : ys.length = es.length := by rw [← h.eq, List.length_map]
  rcases h.own.2 with ⟨h0, h1⟩ | ⟨g, cap, cur, h1, hbg, hgg, _⟩
  · have he : es = [] := List.eq_nil_of_length_eq_zero (by omega)
    exact ⟨none, 0, by rw [h0, he]; rfl, by omega, .inl he⟩
  · refine ⟨_, cap, by rw [h1, hl], by omega, .inr ⟨g, 0, rfl, ⟨hbg, Blk.lt hgg⟩, xinL_of fun i e he => ?_⟩⟩
    obtain ⟨y, hy, rfl⟩ : ∃ y, ys[i]? = some y ∧ y.1 = e := by
      rw [← h.eq, List.getElem?_map] at he
      cases hx : ys[i]? with
      | none => rw [hx] at he; cases he
      | some y => rw [hx] at he; exact ⟨y, rfl, by simpa using he⟩
    obtain ⟨g', cap', e, _, _, hc⟩ := own_at (F := exprC) h.own (fun _ => rfl) hy
    rw [h1] at e
    injection e with e
    injection e with e
    injection e with e _
    subst e
    rw [Nat.zero_add]
    refine ((h.ok y (List.mem_of_getElem? hy)).keep (S' := fun k => k < lo ∨ (base ≤ k ∧ k < w.heap.size)) fun k hk => ⟨rfl, ?_⟩).put (hc 0 _ rfl) (hc 1 _ rfl) (hc 2 _ rfl) (hc 3 _ rfl) (hc 4 _ rfl)
    rcases hk with hk | ⟨h6, h7, _⟩
    · exact .inl hk
    · exact .inr ⟨h6, h7⟩

/-! ### The closure -/
/-- what it has caught -/
structure PutW (wB : World) (g3 g4 g7 : Nat) (A0 : Option Addr) (cap0 : Nat) (l : List Rule) (rule : Nat) (q : Rule) : Prop where
  c3 : wB.cell? ⟨g3, 0, none⟩ = some (.slice A0 l.length cap0)
  c4 : wB.cell? ⟨g4, 0, none⟩ = some (.int .i64 rule)
  c7 : wB.cell? ⟨g7, 0, none⟩ = some (.func (.func 31) #[] #[.pointer (some ⟨g3, 0, none⟩), .pointer (some ⟨g4, 0, none⟩), .pointer (some ⟨g7, 0, none⟩)])
  l3 : g3 < wB.heap.size
  l4 : g4 < wB.heap.size
  l7 : g7 < wB.heap.size
  rl : RulesV wB wB.heap.size (.slice A0 l.length cap0) l
  at' : l[rule]? = some q
def PutPost (lo : Nat) (e : Expr) (W : World) (r : Ending) (w' : World) : Prop := ∃ A cap, r = .returned (exprA e A cap) ∧ XOk w' (fun k => k < lo ∨ (W.heap.size ≤ k ∧ k < w'.heap.size)) e A ∧ Below W.heap.size W w'

set_option maxRecDepth 100000 in
set_option maxHeartbeats 16000000 in
theorem Put_any (wB : World) (g3 g4 g7 : Nat) (A0 : Option Addr) (cap0 : Nat) (l : List Rule) (rule : Nat) (q : Rule) (hP : PutW wB g3 g4 g7 A0 cap0 l rule q) : ∀ (N : Nat), N ≤ 1000000 → ∀ (e : Expr) (ve : Value) (W : World), nodesE e ≤ N → Below wB.heap.size wB W → ExprVal W wB.heap.size ve e →
    Calls Try.prog 31 #[ve, .pointer (some ⟨g3, 0, none⟩), .pointer (some ⟨g4, 0, none⟩), .pointer (some ⟨g7, 0, none⟩)] W (PutPost wB.heap.size (substE q.name q.expr e) W) := by
  intro N
  induction N with
  | zero => intro _ e ve W hN; have := nodesE_pos e; omega
  | succ N ih =>
    intro hN6 e ve W hN hW he
    obtain ⟨A, cap, rfl, hnl, hkl, hkw⟩ := he
    have hnod : nodesL e.kids ≤ N := by cases e; rw [nodesE] at hN; simp only [Expr.kids]; omega
    obtain ⟨k, x, y, enm, kids⟩ := e
    simp only [Expr.kind, Expr.a, Expr.b, Expr.name, Expr.kids] at hnl hkl hkw hnod ⊢
    replace ih := Lib.hid (ih (by omega))
    have hk6 := kids_le kids
    have hkn : kids.length ≤ 1000000 := by omega
    replace hnod := Lib.hid hnod
    clear hN hk6
    have hzW := hW.size
    have p3 := hP.l3
    have p4 := hP.l4
    have p7 := hP.l7
    have c3 : W.cell? ⟨g3, 0, none⟩ = some (.slice A0 l.length cap0) := (hW.cell (p := ⟨g3, 0, none⟩) p3).trans hP.c3
    have c4 : W.cell? ⟨g4, 0, none⟩ = some (.int .i64 rule) := (hW.cell (p := ⟨g4, 0, none⟩) p4).trans hP.c4
    obtain ⟨A', cap', e, hll, hrc⟩ := hP.rl
    injection e with e1 e2 e3
    subst e1 e3
    obtain ⟨b, o, rfl, hbb, hR0⟩ := hrc rule q hP.at'
    have hR := hR0.below hW hbb (Nat.le_refl _) (Nat.le_refl _)
    obtain ⟨q0, hqn, hE⟩ := id hR
    obtain ⟨A1, cap1, q1, q2, q3, q4, q5, he1, he2, he3⟩ := exprAt_val hE
    have q1' : W.cell? ⟨b, o + rule * 6 + 1, none⟩ = some (.int .i64 q.expr.kind) := q1
    have q2' : W.cell? ⟨b, o + rule * 6 + 2, none⟩ = some (.int .i64 q.expr.a) := q2
    have q3' : W.cell? ⟨b, o + rule * 6 + 3, none⟩ = some (.int .i64 q.expr.b) := q3
    have q4' : W.cell? ⟨b, o + rule * 6 + 4, none⟩ = some (strV q.expr.name) := q4
    have q5' : W.cell? ⟨b, o + rule * 6 + 5, none⟩ = some (.slice A1 q.expr.kids.length cap1) := q5
    clear q1 q2 q3 q4 q5 hrc
    have hrl := (List.getElem?_eq_some_iff.1 hP.at').1
    have hrli : (rule : Int) < l.length := by omega
    have hgi : decide (l.length ≤ rule) = false := by simp; omega
    have z3 : g3 < W.heap.size := by omega
    have z4 : g4 < W.heap.size := by omega
    have zb : b < W.heap.size := by omega
    obtain ⟨W2, hW2⟩ : ∃ W2, W2 = (W.alloc (.cells #[.int .i64 k, .int .i64 x, .int .i64 y, strV enm, .slice A kids.length cap] 38)).alloc (.cells #[.int .i64 0, .int .i64 0, .int .i64 0, strV [], .slice none 0 0] 38) := ⟨_, rfl⟩
    have hb2 : Below W.heap.size W W2 := by rw [hW2]; exact ((Below.refl _ _).alloc (Nat.le_refl _) _).alloc (by simp) _
    have hz2 : W2.heap.size = W.heap.size + 2 := by rw [hW2]; simp
    have BE : Blk W2 W.heap.size 38 #[.int .i64 k, .int .i64 x, .int .i64 y, strV enm, .slice A kids.length cap] := by rw [hW2]; exact (Blk.new W _ _).alloc _
    have BZ : Blk W2 (W.heap.size + 1) 38 #[.int .i64 0, .int .i64 0, .int .i64 0, strV [], .slice none 0 0] := by
      have := Blk.new (W.alloc (.cells #[.int .i64 k, .int .i64 x, .int .i64 y, strV enm, .slice A kids.length cap] 38)) 38 #[.int .i64 0, .int .i64 0, .int .i64 0, strV [], .slice none 0 0]
      rw [World.size_alloc] at this
      rw [hW2]
      exact this
    have hsub : substE q.name q.expr (.mk k x y enm kids) = if k = 10 ∧ enm = q.name then q.expr else .mk k x y enm (substL q.name q.expr kids) := by rw [substE]
    replace hsub := Lib.hid hsub
    replace hkw := Lib.hid hkw
    go_enter Try.func31, Try.ntmps31
    go_wp2_with fail
    rw [show strV [] = .string ⟨#[]⟩ from rfl] at hW2
    rw [← hW2]
    replace hW2 := Lib.hid hW2
    replace hz2 := Lib.hid hz2
    have y1 : W.heap.size < W2.heap.size := by have := hz2.out; omega
    have y2 : W.heap.size + 1 < W2.heap.size := by have := hz2.out; omega
    have c3' := (hb2.cell (p := ⟨g3, 0, none⟩) z3).trans c3
    have c4' := (hb2.cell (p := ⟨g4, 0, none⟩) z4).trans c4
    have r0 := (hb2.cell (p := ⟨b, o + rule * 6, none⟩) zb).trans q0
    have r1 := (hb2.cell (p := ⟨b, o + rule * 6 + 1, none⟩) zb).trans q1'
    have r2 := (hb2.cell (p := ⟨b, o + rule * 6 + 2, none⟩) zb).trans q2'
    have r3 := (hb2.cell (p := ⟨b, o + rule * 6 + 3, none⟩) zb).trans q3'
    have r4 := (hb2.cell (p := ⟨b, o + rule * 6 + 4, none⟩) zb).trans q4'
    have r5 := (hb2.cell (p := ⟨b, o + rule * 6 + 5, none⟩) zb).trans q5'
    have w3 : g3 < W2.heap.size := by omega
    have w4 : g4 < W2.heap.size := by omega
    have w5 : b < W2.heap.size := by omega
    obtain ⟨⟨s0, s1, s2, s3, s4⟩, -⟩ := set_cells5 BE
    clear q0 q1' q2' q3' q4' q5' c3 c4
    by_cases hc : k = 10 ∧ enm = q.name
    · have hs : substE q.name q.expr (.mk k x y enm kids) = q.expr := by rw [hsub.out, if_pos hc]
      have gk : (k == 10) = true := by simpa using hc.1
      have gn : (enm == q.name) = true := by simpa using hc.2
      clear hc
      refine wp_region_below (W2.heap.size) _ (Below.refl _ _) (by kernel_rfl) (by kernel_rfl) ?_
      repeat (go_big_quiet_step ((fail)))
      refine wpQuiet_nil ?_
      rintro _ ⟨n1, rfl⟩
      have hn1 := n1.below
      have zn1 := n1.size
      have BZ3 := BZ.after n1 y2
      have r1' := (hn1.cell (p := ⟨b, o + rule * 6 + 1, none⟩) w5).trans r1
      have r2' := (hn1.cell (p := ⟨b, o + rule * 6 + 2, none⟩) w5).trans r2
      have r3' := (hn1.cell (p := ⟨b, o + rule * 6 + 3, none⟩) w5).trans r3
      have r4' := (hn1.cell (p := ⟨b, o + rule * 6 + 4, none⟩) w5).trans r4
      have r5' := (hn1.cell (p := ⟨b, o + rule * 6 + 5, none⟩) w5).trans r5
      have c3'' := (hn1.cell (p := ⟨g3, 0, none⟩) w3).trans c3'
      have c4'' := (hn1.cell (p := ⟨g4, 0, none⟩) w4).trans c4'
      clear r0 r1 r2 r3 r4 r5 c3' c4' s0 s1 s2 s3 s4
      generalize n1.w = W3 at *
      obtain ⟨⟨v0, v1, v2, v3, v4⟩, u0, u1, u2, u3, u4⟩ := set_cells5 BZ3
      have hb3 : Below W.heap.size W W3 := hb2.trans (hn1.mono (by omega))
      go_wp2_with fail
      have BR := ((((BZ3.set 0 (.int .i64 q.expr.kind)).set 1 (.int .i64 q.expr.a)).set 2 (.int .i64 q.expr.b)).set 3 (strV q.expr.name)).set 4 (.slice A1 q.expr.kids.length cap1)
      obtain ⟨⟨t0, t1, t2, t3, t4⟩, -⟩ := set_cells5 BR
      have hend := ((((hb3.setCell (p := ⟨W.heap.size + 1, 0, none⟩) (by show _ ≤ W.heap.size + 1; omega) (.int .i64 q.expr.kind)).setCell (p := ⟨W.heap.size + 1, 1, none⟩) (by show _ ≤ W.heap.size + 1; omega) (.int .i64 q.expr.a)).setCell (p := ⟨W.heap.size + 1, 2, none⟩) (by show _ ≤ W.heap.size + 1; omega) (.int .i64 q.expr.b)).setCell (p := ⟨W.heap.size + 1, 3, none⟩) (by show _ ≤ W.heap.size + 1; omega) (strV q.expr.name)).setCell (p := ⟨W.heap.size + 1, 4, none⟩) (by show _ ≤ W.heap.size + 1; omega) (.slice A1 q.expr.kids.length cap1)
      rw [hs]
      refine bodyPost_ret (v := exprA q.expr A1 cap1) (by simp [results, Try.results31, go_sem, t0, t1, t2, t3, t4, exprA]) rfl ⟨A1, cap1, rfl, ?_, hend⟩
      have he4 := he3.below hend (by omega) (Nat.le_refl _)
      exact ⟨he1, he2, he4.imp id fun ⟨kb, ko, h1, h2, h3⟩ => ⟨kb, ko, h1, .inl h2, XInL.keep (fun k hk => ⟨rfl, .inl hk⟩) h3.xin rfl⟩⟩
    · have hs : substE q.name q.expr (.mk k x y enm kids) = .mk k x y enm (substL q.name q.expr kids) := by rw [hsub.out, if_neg hc]
      by_cases hk : k = 10
      case' pos =>
        have gk : (k == 10) = true := by simpa using hk
        have gn : (enm == q.name) = false := by simpa using fun h => hc ⟨hk, h⟩
        clear hc hk
        refine wp_region_below (W2.heap.size) _ (Below.refl _ _) (by kernel_rfl) (by kernel_rfl) ?_
        repeat (go_big_quiet_step ((fail)))
        refine wpQuiet_nil ?_
        rintro _ ⟨n1, rfl⟩
        have hn1 := n1.below
        have zn1 := n1.size
        have BE3 := BE.after n1 y1
        have BZ3 := BZ.after n1 y2
        clear r0 r1 r2 r3 r4 r5 c3' c4' s0 s1 s2 s3 s4
        generalize n1.w = W3 at *
        obtain ⟨⟨s0, s1, s2, s3, s4⟩, -⟩ := set_cells5 BE3
      case' neg =>
        have gk : (k == 10) = false := by simpa using hk
        clear hc hk
        refine wp_region_below (W2.heap.size) _ (Below.refl _ _) (by kernel_rfl) (by kernel_rfl) ?_
        repeat (go_big_quiet_step ((fail)))
        refine wpQuiet_nil ?_
        rintro _ ⟨n1, rfl⟩
        have hn1 := n1.below
        have zn1 := n1.size
        have BE3 := BE.after n1 y1
        have BZ3 := BZ.after n1 y2
        clear r0 r1 r2 r3 r4 r5 c3' c4' s0 s1 s2 s3 s4
        generalize n1.w = W3 at *
        obtain ⟨⟨s0, s1, s2, s3, s4⟩, -⟩ := set_cells5 BE3
      all_goals
        have hb3 : Below W.heap.size W W3 := hb2.trans (hn1.mono (by omega))
        go_wp2_with fail
        go_loopg [30, 6] kids.length (fun qq kv sv wr => ∃ (j : Nat) (v : Value) (ys : List (Expr × Option Addr × Nat)), j ≤ kids.length ∧ qq = kids.length - j ∧ kv = .int .i64 j ∧ v = sv ∧ Hid (KRow wr wB.heap.size (W.heap.size + 2) v ((kids.take j).map (substE q.name q.expr)) ys) ∧ Blk wr W.heap.size 38 #[.int .i64 k, .int .i64 x, .int .i64 y, strV enm, .slice A kids.length cap] ∧ Blk wr (W.heap.size + 1) 38 #[.int .i64 0, .int .i64 0, .int .i64 0, strV [], .slice none 0 0] ∧ Below W.heap.size W wr ∧ W.heap.size + 2 ≤ wr.heap.size)
        case atStart => exact ⟨0, _, [], by omega, rfl, rfl, rfl, Lib.hid (KRow.nil _ _ _), BE3, BZ3, hb3, by have := hz2.out; omega⟩
        case round =>
          clear BE3 BZ3 hb3 s0 s1 s2 s3 s4
          obtain ⟨j, v, ys, hj, hqq, rfl, rfl, hK, BEr, BZr, hbr, hzr⟩ := hrel
          replace hqq := Lib.hid hqq
          by_cases hlt : j < kids.length
          · obtain ⟨e1, hx⟩ : ∃ d, kids[j]? = some d := ⟨_, List.getElem?_eq_getElem hlt⟩
            have hlti : (j : Int) < kids.length := by omega
            obtain ⟨kb, ko, rfl, hkb, hke⟩ := hkw.out.at' hx
            have hkr := hke.below hbr (Nat.le_trans hzW (Nat.le_refl _)) (Nat.le_refl _) (by omega)
            obtain ⟨v0, v1, v2, v3, hnl1, A1, cap1, v4, hkl1, hkv1⟩ := hkr.out
            have hzz : kb < wr.heap.size := by omega
            have c7 : wr.cell? ⟨g7, 0, none⟩ = some (.func (.func 31) #[] #[.pointer (some ⟨g3, 0, none⟩), .pointer (some ⟨g4, 0, none⟩), .pointer (some ⟨g7, 0, none⟩)]) := (hbr.cell (p := ⟨g7, 0, none⟩) (by show g7 < W.heap.size; omega)).trans ((hW.cell (p := ⟨g7, 0, none⟩) p7).trans hP.c7)
            have z7 : g7 < wr.heap.size := by omega
            have hba : Below wr.heap.size wr (wr.alloc (.cells #[.int .i64 e1.kind, .int .i64 e1.a, .int .i64 e1.b, strV e1.name, .slice A1 e1.kids.length cap1] 38)) := (Below.refl _ _).alloc (Nat.le_refl _) _
            have hcall := Lib.hid (ih.out e1 (.agg #[.int .i64 e1.kind, .int .i64 e1.a, .int .i64 e1.b, strV e1.name, .slice A1 e1.kids.length cap1]) (wr.alloc (.cells #[.int .i64 e1.kind, .int .i64 e1.a, .int .i64 e1.b, strV e1.name, .slice A1 e1.kids.length cap1] 38)) (by have := nodesE_kid hx; have := hnod.out; omega) ((hW.trans (hbr.mono hzW)).alloc (by omega) _) ⟨A1, cap1, rfl, hnl1, hkl1, hkv1.below ((Below.refl wB.heap.size wr).alloc (by omega) _) (Nat.le_refl _) (Nat.le_refl _)⟩)
            have b0 := BEr.cell 4
            have hes : (kids.take (j + 1)).map (substE q.name q.expr) = (kids.take j).map (substE q.name q.expr) ++ [substE q.name q.expr e1] := by
              rw [List.take_add_one, hx, List.map_append]
              rfl
            have hel : ((kids.take j).map (substE q.name q.expr)).length = j := by rw [List.length_map, List.length_take]; omega
            replace hes := Lib.hid hes
            replace hel := Lib.hid hel
            clear hkr hkv1 hke
            go_wp2_with fail
            refine hcall.out.mono ?_
            rintro e5 w5 ⟨A5, cap5, rfl, hX5, hb5⟩
            unfold exprA
            have hb5' : Below wr.heap.size wr w5 := hba.trans (hb5.mono (by simp))
            have hz5 := hb5.size
            simp at hz5
            have hK5 := hK.out.keep hb5' (by omega)
            have hown := hK.out.own
            have hXs : XOk w5 (SetK wB.heap.size (W.heap.size + 2) v w5) (substE q.name q.expr e1) A5 := hX5.keep fun k hk => ⟨rfl, by
              rcases hk with hk | ⟨h6, h7⟩
              · exact .inl hk
              · simp at h6
                exact .inr ⟨by omega, h7, fun e => by have := (hown.lt k e).2; omega⟩⟩
            have BE5 := BEr.below hb5' (by omega)
            have BZ5 := BZr.below hb5' (by omega)
            have hbw5 : Below W.heap.size W w5 := hbr.trans (hb5'.mono (by omega))
            generalize hf : substE q.name q.expr e1 = f1 at *
            go_wp2_with (at_builtin; refine wpList_kid rfl (.tmp 34) (.tmp 38) rfl wB.heap.size (W.heap.size + 2) v _ ys hK5 (by rw [hel.out]; omega) (f1, A5, cap5) _ rfl rfl hXs (by omega) (by omega) ?_; intro g c w6 hK6 hb6 hz6 hg6 hgl6)
            go_roundg (kids.length - (j + 1))
            case measure => rw [hqq.out]; omega
            case rel => exact ⟨j + 1, _, _, by omega, rfl, by go_num, rfl, Lib.hid (by rw [hes.out]; rw [hel.out] at hK6; exact hK6), BE5.below hb6 (by omega), BZ5.below hb6 (by omega), hbw5.trans (hb6.mono (by omega)), by omega⟩
          · obtain rfl : j = kids.length := by omega
            have hK1 := hK.out
            rw [List.take_length, ← substL_map] at hK1
            have hlk : (substL q.name q.expr kids).length = kids.length := by rw [substL_map, List.length_map]
            obtain ⟨A2, c2, hv, hl2, hk2⟩ := hK1.kids (by omega)
            rw [hlk] at hv hl2
            subst hv
            clear hK hK1
            obtain ⟨⟨v0, v1, v2, v3, v4⟩, u0, u1, u2, u3, u4⟩ := set_cells5 BEr
            obtain ⟨⟨m0, m1, m2, m3, m4⟩, n0, n1, n2, n3, n4⟩ := set_cells5 BZr
            go_wp2_with fail
            have BE4 := BEr.set 4 (.slice A2 kids.length c2)
            have BZ4 := BZr.far (p := ⟨W.heap.size, 4, none⟩) (by show _ ≠ W.heap.size; omega) (.slice A2 kids.length c2)
            have BR := ((((BZ4.set 0 (.int .i64 k)).set 1 (.int .i64 x)).set 2 (.int .i64 y)).set 3 (strV enm)).set 4 (.slice A2 kids.length c2)
            obtain ⟨⟨t0, t1, t2, t3, t4⟩, -⟩ := set_cells5 BR
            have hend0 := hbr.setCell (p := ⟨W.heap.size, 4, none⟩) (by show _ ≤ W.heap.size; omega) (.slice A2 kids.length c2)
            have hend := ((((hend0.setCell (p := ⟨W.heap.size + 1, 0, none⟩) (by show _ ≤ W.heap.size + 1; omega) (.int .i64 k)).setCell (p := ⟨W.heap.size + 1, 1, none⟩) (by show _ ≤ W.heap.size + 1; omega) (.int .i64 x)).setCell (p := ⟨W.heap.size + 1, 2, none⟩) (by show _ ≤ W.heap.size + 1; omega) (.int .i64 y)).setCell (p := ⟨W.heap.size + 1, 3, none⟩) (by show _ ≤ W.heap.size + 1; omega) (strV enm)).setCell (p := ⟨W.heap.size + 1, 4, none⟩) (by show _ ≤ W.heap.size + 1; omega) (.slice A2 kids.length c2)
            have hxv : exprA (.mk k x y enm (substL q.name q.expr kids)) A2 c2 = .agg #[.int .i64 k, .int .i64 x, .int .i64 y, strV enm, .slice A2 kids.length c2] := by unfold exprA; simp only [Expr.kind, Expr.a, Expr.b, Expr.name, Expr.kids]; rw [hlk]
            refine bodyPost_ret (v := exprA (.mk k x y enm (substL q.name q.expr kids)) A2 c2) (by rw [hxv]; simp [results, Try.results31, go_sem, t0, t1, t2, t3, t4]) rfl ?_
            rw [hs]
            refine ⟨A2, c2, rfl, ⟨hnl, by show (substL q.name q.expr kids).length ≤ _; rw [hlk]; exact hl2, ?_⟩, hend⟩
            have c : ∀ (V : World) (g p : Nat) (u : Value) (kk : Nat), kk ≠ g → (V.setCell ⟨g, p, none⟩ u).heap[kk]? = V.heap[kk]? := fun V g p u kk h => Below.heap_setCell V ⟨g, p, none⟩ u kk h
            have cc : ∀ kk, kk ≠ W.heap.size → kk ≠ W.heap.size + 1 → (((((((wr.setCell ⟨W.heap.size, 4, none⟩ (.slice A2 kids.length c2)).setCell ⟨W.heap.size + 1, 0, none⟩ (.int .i64 k)).setCell ⟨W.heap.size + 1, 1, none⟩ (.int .i64 x)).setCell ⟨W.heap.size + 1, 2, none⟩ (.int .i64 y)).setCell ⟨W.heap.size + 1, 3, none⟩ (strV enm)).setCell ⟨W.heap.size + 1, 4, none⟩ (.slice A2 kids.length c2))).heap[kk]? = wr.heap[kk]? := fun kk h1 h2 => by
              rw [c _ _ _ _ _ h2, c _ _ _ _ _ h2, c _ _ _ _ _ h2, c _ _ _ _ _ h2, c _ _ _ _ _ h2, c _ _ _ _ _ h1]
            show substL q.name q.expr kids = [] ∨ _
            exact hk2.imp id fun ⟨kb, ko, h1, h2, h3⟩ => ⟨kb, ko, h1, .inr ⟨by omega, by simp; omega⟩, XInL.keep (fun kk hk => ⟨cc kk (by omega) (by omega), by
              rcases hk with hk | ⟨h6, h7⟩
              · exact .inl hk
              · exact .inr ⟨by omega, by simp; omega⟩⟩) h3 (cc kb (by omega) (by omega))⟩

/-- rules in a row of one's own; their kids lie elsewhere -/
structure RRow (w : World) (lo base : Nat) (v : Value) (es : List Rule) (ys : List (Rule × Option Addr × Nat)) : Prop where
  eq : ys.map (·.1) = es
  own : w.ownsRow base 40 6 v ys.length (ys.flatMap ruleC)
  ok : ∀ y ∈ ys, y.1.name.length ≤ 9223372036854775807 ∧ XOk w (SetK lo base v w) y.1.expr y.2.1
theorem RRow.nil (w : World) (lo base : Nat) : RRow w lo base (.slice none 0 0) [] [] := ⟨rfl, World.ownsRow_nil _ _ _ _, fun y hy => by cases hy⟩
theorem RRow.keep {w w' : World} {lo base : Nat} {v : Value} {es : List Rule} {ys : List (Rule × Option Addr × Nat)} (h : RRow w lo base v es ys) (hb : Below w.heap.size w w') (hl : lo ≤ w.heap.size) : RRow w' lo base v es ys := by
  refine ⟨h.eq, own_keep h.own hb (Nat.le_refl _), fun y hy => ⟨(h.ok y hy).1, (h.ok y hy).2.keep fun k hk => ?_⟩⟩
  have hz := hb.size
  rcases hk with hk | ⟨h1, h2, h3⟩
  · exact ⟨hb.block k (by omega), .inl hk⟩
  · exact ⟨hb.block k h2, .inr ⟨h1, by omega, h3⟩⟩
theorem wpList_rule {W : World} {ops : Array Oper} {rest : List Oper} {o : Oper} {a : Act} {Q : Exit → Act → World → Prop} (hgd : o.guard = none) (s x : Operand)
    (ho : o.op = .call { callee := .builtin .append, args := #[s, x], argTypes := #[22, 22] })
    (lo base kb : Nat) (v : Value) (es : List Rule) (ys : List (Rule × Option Addr × Nat)) (hR : RRow W lo base v es ys) (hn : es.length ≤ 1000000) (y : Rule × Option Addr × Nat) (hs : a.eval s = v) (hx : a.eval x = .slice (some ⟨kb, 0, none⟩) 1 1) (hlit : ∀ j u, (ruleC y)[j]? = some u → W.cell? ⟨kb, j, none⟩ = some u)
    (hy : y.1.name.length ≤ 9223372036854775807 ∧ XOk W (SetK lo base v W) y.1.expr y.2.1) (hlo : lo ≤ base) (hbase : base ≤ W.heap.size)
    (h : ∀ g c w', RRow w' lo base (.slice (some ⟨g, 0, none⟩) (es.length + 1) c) (es ++ [y.1]) (ys ++ [y]) → Below base W w' → wpList Try.prog ops Q rest (a.put o.dst (.slice (some ⟨g, 0, none⟩) (es.length + 1) c)) w') :
    wpList Try.prog ops Q (o :: rest) a W := by
  have hl : ys.length = es.length := by rw [← hR.eq, List.length_map]
  obtain ⟨i, z, hi, hz, hsi, hby, hzs⟩ := el_rule.inf
  refine wpList_append_lies _ hgd s x 22 ho base 40 i z 6 80 el_rule.sl hi hz hsi hby hzs el_rule.pos v ys.length (ys.flatMap ruleC) hs hR.own ⟨kb, 0, none⟩ 1 1 (ruleC y) hx rfl (fun j u hu => ?_) (by simp [ruleC, strV, Value.oneCell']) (by omega) (by simp only [maxLen]; omega) (by omega) hbase _ rfl ?_
  · rw [Addr.add_lit, Nat.zero_add]
    exact hlit j u hu
  · intro g cap w' h2 h3 h4 h5
    have hb := own_below hbase hR.own h3
    have hz := h3.size
    have key : ∀ k, SetK lo base v W k → w'.heap[k]? = W.heap[k]? ∧ SetK lo base (.slice (some ⟨g, 0, none⟩) (es.length + 1) cap) w' k := fun k hk => by
      have own := fun k => hR.own.lt k
      rcases hk with hk | ⟨h6, h7, h8⟩
      · refine ⟨h3.block k (by omega) (fun e => by have := own k e.symm; omega), .inl hk⟩
      · refine ⟨h3.block k (by omega) (fun e => h8 e.symm), .inr ⟨h6, by omega, ?_⟩⟩
        intro e
        have e : g = k := by simpa [Value.ownBlock] using e
        rcases h4 with h4 | h4
        · exact h8 (by rw [h4, e])
        · omega
    rw [hl] at h2
    have hfin : RRow w' lo base (.slice (some ⟨g, 0, none⟩) (es.length + 1) cap) (es ++ [y.1]) (ys ++ [y]) := ⟨by rw [List.map_append, hR.eq]; rfl, by rw [List.length_append, List.length_singleton, hl, List.flatMap_append]; simpa using h2, fun z hz2 => by
      rcases List.mem_append.1 hz2 with h6 | h6
      · exact ⟨(hR.ok z h6).1, (hR.ok z h6).2.keep key⟩
      · rw [List.mem_singleton] at h6
        subst h6
        exact ⟨hy.1, hy.2.keep key⟩⟩
    rw [hl]
    exact h g cap w' hfin hb
theorem RRow.rules {w : World} {lo base : Nat} {v : Value} {es : List Rule} {ys : List (Rule × Option Addr × Nat)} (h : RRow w lo base v es ys) (hn : es.length ≤ 1000000) (hlo : lo ≤ w.heap.size) : RulesV w w.heap.size v es := by
  have hl : ys.length = es.length := by rw [← h.eq, List.length_map]
  obtain ⟨A, cap, rfl⟩ := own_slice h.own
  rw [hl] at *
  refine ⟨A, cap, rfl, by omega, fun i r hr => ?_⟩
  obtain ⟨y, hy, rfl⟩ : ∃ y, ys[i]? = some y ∧ y.1 = r := by
    rw [← h.eq, List.getElem?_map] at hr
    cases hx : ys[i]? with
    | none => rw [hx] at hr; cases hr
    | some y => rw [hx] at hr; exact ⟨y, rfl, by simpa using hr⟩
  have ho := h.own
  rw [← hl] at ho
  obtain ⟨g, cap', e, hb, hg, hc⟩ := own_at (F := ruleC) ho (fun _ => rfl) hy
  have hA : A = some ⟨g, 0, none⟩ := by injection e
  have hok := h.ok y (List.mem_of_getElem? hy)
  refine ⟨g, 0, hA, hg, ?_⟩
  show RuleAt w w.heap.size g (0 + i * 6) y.1
  rw [Nat.zero_add]
  refine ⟨hc 0 _ rfl, hok.1, (hok.2.put (hc 1 _ rfl) (hc 2 _ rfl) (hc 3 _ rfl) (hc 4 _ rfl) (hc 5 _ rfl)).at' fun k hk => ?_⟩
  rcases hk with hk | ⟨_, h2, _⟩
  · omega
  · exact h2

@[go_sem] theorem run_store_fn {P : Program} (w : World) (a : Addr) (f : Fn) (p c : Array Value) (m : Mode) : (store a (.func f p c) m).run P w = stored P w a (.func f p c) m := run_store P w a _ m rfl

set_option maxRecDepth 100000 in
set_option maxHeartbeats 32000000 in
theorem MeanNames_true (v : Value) (l : List Rule) (rule day : Int) (w : World) (hr : RulesV w w.heap.size v l) : Calls Try.prog 9 #[v, .int .i64 rule, .int .i64 day] w fun e w' => e = .returned (.bool true) ∧ Below w.heap.size w w' := by
  have hmf : ∀ fn first cap w, (Instr.makeFunc fn first cap).run Try.prog w = .ok (.func fn first cap) w := fun _ _ _ _ => rfl
  have hAl := Lib.hid alive6
  have hv := Lib.hid (fun (W : World) (h : Below w.heap.size w W) => hr.below h (Nat.le_refl _) h.size)
  obtain ⟨A0, cap0, rfl, hlen, -⟩ := id hr
  obtain ⟨wA, hwA⟩ : ∃ W, W = (w.alloc (.cells #[.slice A0 l.length cap0] 22)).alloc (.cells #[.int .i64 rule] 3) := ⟨_, rfl⟩
  have hbA : Below w.heap.size w wA := by rw [hwA]; exact ((Below.refl _ _).alloc (Nat.le_refl _) _).alloc (by simp) _
  have hzA : wA.heap.size = w.heap.size + 2 := by rw [hwA]; simp
  have B3 : Blk wA w.heap.size 22 #[.slice A0 l.length cap0] := by rw [hwA]; exact (Blk.new w _ _).alloc _
  have B4 : Blk wA (w.heap.size + 1) 3 #[.int .i64 rule] := by
    have := Blk.new (w.alloc (.cells #[.slice A0 l.length cap0] 22)) 3 #[.int .i64 rule]
    rw [World.size_alloc] at this
    rw [hwA]
    exact this
  go_enter Try.func9, Try.ntmps9
  go_wp2_with fail
  rw [← hwA]
  replace hwA := Lib.hid hwA
  refine (hAl.out _).mono ?_
  rintro e1 w1 ⟨rfl, hb1⟩
  have hz1 := hb1.size
  have hb1' : Below w.heap.size w w1 := hbA.trans (hb1.mono (by omega))
  have B31 := B3.below hb1 (by omega)
  have B41 := B4.below hb1 (by omega)
  have c3 := B31.cell 0
  have c4 := B41.cell 0
  simp at c3 c4
  by_cases g1 : rule < 0
  · go_wp2
    go_ret
    exact ⟨rfl, hb1'⟩
  by_cases g2 : (l.length : Int) ≤ rule
  · go_wp2
    go_ret
    exact ⟨rfl, hb1'⟩
  go_wp2_with fail
  refine (CWrong_any _ l w1 (hv.out w1 hb1')).mono ?_
  rintro e2 w2 ⟨rfl, hb2⟩
  unfold faultV
  have hz2 := hb2.size
  have hb2' : Below w.heap.size w w2 := Below.call hb1' hb2 hb1'.size
  by_cases hw : (wrongR l).1 = 0
  case neg =>
    have gw : ((wrongR l).1 != 0) = true := by simpa using hw
    go_wp2
    go_ret
    exact ⟨rfl, hb2'⟩
  have gw : ((wrongR l).1 != 0) = false := by simpa using hw
  have B32 := B31.below hb2 (by omega)
  have B42 := B41.below hb2 (by omega)
  have c3' := B32.cell 0
  have c4' := B42.cell 0
  simp at c3' c4'
  have y3 : w.heap.size < w2.heap.size := by omega
  have y4 : w.heap.size + 1 < w2.heap.size := by omega
  clear c3 c4
  go_wp2_with fail
  obtain ⟨rn, rfl⟩ : ∃ rn : Nat, rule = rn := ⟨rule.toNat, by omega⟩
  have hrn : rn < l.length := by omega
  obtain ⟨q, hq⟩ : ∃ q, l[rn]? = some q := ⟨_, List.getElem?_eq_getElem hrn⟩
  obtain ⟨h40, hgood⟩ := form_right (wrong_form hw)
  obtain ⟨wB, hwB⟩ : ∃ W, W = w2.alloc (.cells #[(.func (.func 31) #[] #[.pointer (some ⟨w.heap.size, 0, none⟩), .pointer (some ⟨w.heap.size + 1, 0, none⟩), .pointer (some ⟨w2.heap.size, 0, none⟩)])] 60) := ⟨_, rfl⟩
  have hbB : Below w2.heap.size w2 wB := by rw [hwB]; exact (Below.refl _ _).alloc (Nat.le_refl _) _
  have hzB : wB.heap.size = w2.heap.size + 1 := by rw [hwB]; simp
  have B7 : Blk wB w2.heap.size 60 #[(.func (.func 31) #[] #[.pointer (some ⟨w.heap.size, 0, none⟩), .pointer (some ⟨w.heap.size + 1, 0, none⟩), .pointer (some ⟨w2.heap.size, 0, none⟩)])] := by rw [hwB]; exact Blk.new w2 _ _
  rw [← hwB]
  replace hwB := Lib.hid hwB
  have hbB' : Below w.heap.size w wB := Below.call hb2' hbB hb2'.size
  have hPW : PutW wB w.heap.size (w.heap.size + 1) w2.heap.size A0 cap0 l rn q := ⟨(B32.below hbB (by omega)).cell 0, (B42.below hbB (by omega)).cell 0, B7.cell 0, by omega, by omega, by omega, hv.out wB hbB', hq⟩
  have hPut := Lib.hid (Put_any wB w.heap.size (w.heap.size + 1) w2.heap.size A0 cap0 l rn q hPW 600 (by omega))
  have hwh := Lib.hid hw
  have c33 := hPW.c3
  have y3' : w.heap.size < wB.heap.size := by omega
  clear c3' c4' hw
  have gd1 : decide ((rn : Int) < 0) = false := decide_eq_false (by omega)
  have gd2 : decide ((l.length : Int) ≤ (rn : Int)) = false := decide_eq_false (by omega)
  simp only [gd1, gd2, Bool.or_false]
  go_loopg [34, 8] l.length (fun qq kv sv wr => ∃ (i : Nat) (v : Value) (ys : List (Rule × Option Addr × Nat)), i ≤ l.length ∧ qq = l.length - i ∧ kv = .int .i64 i ∧ v = sv ∧ Hid (RRow wr wB.heap.size wB.heap.size v ((l.take i).map fun r => ⟨r.name, substE q.name q.expr r.expr⟩) ys) ∧ Below wB.heap.size wB wr)
  case atStart => exact ⟨0, _, [], by omega, rfl, rfl, rfl, Lib.hid (RRow.nil _ _ _), Below.refl _ _⟩
  case round =>
    obtain ⟨i, v, ys, hi, hqq, rfl, rfl, hK, hbr⟩ := hrel
    replace hqq := Lib.hid hqq
    have zr := hbr.size
    have hbrw : Below w.heap.size w wr := hbB'.trans (hbr.mono (by omega))
    by_cases hlt : i < l.length
    · obtain ⟨r, hx⟩ : ∃ r, l[i]? = some r := ⟨_, List.getElem?_eq_getElem hlt⟩
      have hlti : (i : Int) < l.length := by omega
      obtain ⟨A', cap', e, _, hrc⟩ := hv.out wr hbrw
      injection e with e1 e2 e3
      subst e1 e3
      obtain ⟨b, o, rfl, hbb, hR0⟩ := hrc i r hx
      obtain ⟨k0, hrn1, hE⟩ := id hR0
      obtain ⟨A1, cap1, k1, k2, k3, k4, k5, he1, he2, he3⟩ := exprAt_val hE
      have k1' : wr.cell? ⟨b, o + i * 6 + 1, none⟩ = some (.int .i64 r.expr.kind) := k1
      have k2' : wr.cell? ⟨b, o + i * 6 + 2, none⟩ = some (.int .i64 r.expr.a) := k2
      have k3' : wr.cell? ⟨b, o + i * 6 + 3, none⟩ = some (.int .i64 r.expr.b) := k3
      have k4' : wr.cell? ⟨b, o + i * 6 + 4, none⟩ = some (strV r.expr.name) := k4
      have k5' : wr.cell? ⟨b, o + i * 6 + 5, none⟩ = some (.slice A1 r.expr.kids.length cap1) := k5
      obtain ⟨A'', cap'', e, _, hrc0⟩ := hv.out wB hbB'
      injection e with e1 e2 e3
      subst e1 e3
      obtain ⟨b', o', e, _, hRB⟩ := hrc0 i r hx
      injection e with e
      injection e with e1 e2 e3
      subst e1 e2
      obtain ⟨_, _, hEB⟩ := id hRB
      obtain ⟨A3, cap3, _, _, _, _, k5B, _, _, heB⟩ := exprAt_val hEB
      have hsame := (hbr.cell (p := ⟨b, o + i * 6 + 1 + 4, none⟩) (by show b < _; obtain ⟨_, _, e, _, h⟩ := hv.out wB hbB'; cases e; obtain ⟨_, _, e, hlt3, _⟩ := h i r hx; cases e; exact hlt3)).trans k5B
      rw [show wr.cell? ⟨b, o + i * 6 + 1 + 4, none⟩ = _ from k5] at hsame
      injection hsame with hsame
      injection hsame with hs1 _ hs3
      subst hs1 hs3
      clear k1 k2 k3 k4 k5 hrc hrc0 hE hEB hR0 hRB
      have hsb : b < wr.heap.size := by omega
      go_wp2_with fail
      obtain ⟨W0, hW0⟩ : ∃ W, W = wr.alloc (.cells #[strV r.name, .int .i64 r.expr.kind, .int .i64 r.expr.a, .int .i64 r.expr.b, strV r.expr.name, .slice A1 r.expr.kids.length cap1] 40) := ⟨_, rfl⟩
      have hb0 : Below wr.heap.size wr W0 := by rw [hW0]; exact (Below.refl _ _).alloc (Nat.le_refl _) _
      have hz0 : W0.heap.size = wr.heap.size + 1 := by rw [hW0]; simp
      have B0 : Blk W0 wr.heap.size 40 #[strV r.name, .int .i64 r.expr.kind, .int .i64 r.expr.a, .int .i64 r.expr.b, strV r.expr.name, .slice A1 r.expr.kids.length cap1] := by rw [hW0]; exact Blk.new wr _ _
      rw [← hW0]
      replace hW0 := Lib.hid hW0
      have d0 : W0.cell? ⟨wr.heap.size, 0, none⟩ = some (strV r.name) := B0.cell 0
      have d1 : W0.cell? ⟨wr.heap.size, 1, none⟩ = some (.int .i64 r.expr.kind) := B0.cell 1
      have d2 : W0.cell? ⟨wr.heap.size, 2, none⟩ = some (.int .i64 r.expr.a) := B0.cell 2
      have d3 : W0.cell? ⟨wr.heap.size, 3, none⟩ = some (.int .i64 r.expr.b) := B0.cell 3
      have d4 : W0.cell? ⟨wr.heap.size, 4, none⟩ = some (strV r.expr.name) := B0.cell 4
      have d5 : W0.cell? ⟨wr.heap.size, 5, none⟩ = some (.slice A1 r.expr.kids.length cap1) := B0.cell 5
      have hb0B : Below wB.heap.size wB W0 := hbr.trans (hb0.mono zr)
      have c7 : W0.cell? ⟨w2.heap.size, 0, none⟩ = some (.func (.func 31) #[] #[.pointer (some ⟨w.heap.size, 0, none⟩), .pointer (some ⟨w.heap.size + 1, 0, none⟩), .pointer (some ⟨w2.heap.size, 0, none⟩)]) := (hb0B.cell (p := ⟨w2.heap.size, 0, none⟩) (by show w2.heap.size < _; omega)).trans (B7.cell 0)
      have x1 : wr.heap.size < W0.heap.size := by omega
      have x2 : w2.heap.size < W0.heap.size := by omega
      have hKs := Lib.hid (fun (W : World) (h : Below W0.heap.size W0 W) => hK.out.keep (hb0.trans (h.mono (by omega))) zr)
      have hown := Lib.hid hK.out.own
      have hcall := Lib.hid (fun (W : World) (h : Below W0.heap.size W0 W) => hPut.out r.expr (.agg #[.int .i64 r.expr.kind, .int .i64 r.expr.a, .int .i64 r.expr.b, strV r.expr.name, .slice A1 r.expr.kids.length cap1]) W (hgood r (List.mem_of_getElem? hx)).2 (hb0B.trans (h.mono (by omega))) ⟨A1, cap1, rfl, he1, he2, heB.below (hb0B.trans (h.mono (by omega))) (Nat.le_refl _) (Nat.le_refl _)⟩)
      have hes : (l.take (i + 1)).map (fun r => (⟨r.name, substE q.name q.expr r.expr⟩ : Rule)) = (l.take i).map (fun r => (⟨r.name, substE q.name q.expr r.expr⟩ : Rule)) ++ [⟨r.name, substE q.name q.expr r.expr⟩] := by
        rw [List.take_add_one, hx, List.map_append]
        rfl
      have hel : ((l.take i).map (fun r => (⟨r.name, substE q.name q.expr r.expr⟩ : Rule))).length = i := by rw [List.length_map, List.length_take]; omega
      replace hes := Lib.hid hes
      replace hel := Lib.hid hel
      clear k0 k1' k2' k3' k4' k5' he3 heB hK
      unfold PutPost at hcall
      generalize substE q.name q.expr r.expr = f1 at *
      refine Fr.wp_region_late [] [(6, fun v V V' => ∃ A6 cap6, v = .agg #[.int .i64 f1.kind, .int .i64 f1.a, .int .i64 f1.b, strV f1.name, .slice A6 f1.kids.length cap6] ∧ XOk V' (fun k => k < wB.heap.size ∨ (V.heap.size ≤ k ∧ k < V'.heap.size)) f1 A6),
        (8, fun v V V' => ∃ A8 cap8, v = .slice (some ⟨V.heap.size, 0, none⟩) 1 1 ∧ V' = V.alloc (.cells #[strV r.name, .int .i64 f1.kind, .int .i64 f1.a, .int .i64 f1.b, strV f1.name, .slice A8 f1.kids.length cap8] 40) ∧ XOk V (fun k => k < wB.heap.size ∨ (W0.heap.size ≤ k ∧ k < V.heap.size)) f1 A8)]
        9 W0.heap.size W0 (Below.refl _ _) (Nat.le_refl _) (by kernel_rfl) (by kernel_rfl) (by kernel_rfl) (fun _ _ d _ _ h => by cases d <;> exact h) ?_
      simp only [List.take_succ_cons, List.take_zero, List.drop_succ_cons, List.drop_zero]
      refine Fr.free_take 6 (Fr.class_ne _ _) (by rfl) (by rfl) ?_
      simp only [List.take_succ_cons, List.take_zero, List.drop_succ_cons, List.drop_zero]
      iterate 6 (go_big_quiet_step ((fail)))
      refine wpQuiet_nil ?_
      change Fr.wpFree _ _ _ _ _ _ _ _ 6 _ _
      refine Fr.free_ev rfl rfl (Nat.le_of_ble_eq_true rfl) (fun V hv => ?_) ?_
      · obtain ⟨⟨n, rfl⟩, _⟩ := hv
        have cc := Lib.hid (hcall.out n.w n.below)
        go_wp2_with fail
        refine cc.out.mono ?_
        rintro e10 w10 ⟨A10, cap10, rfl, hX10, hw10⟩
        rename_i K hK
        exact hK _ _ ⟨rfl, rfl, hw10, A10, cap10, rfl, hX10⟩
      rintro _ V6 V6' hv6 hg6 ⟨A6, cap6, rfl, hX6⟩
      simp only [Act.put, List.setIfInBounds_toArray, List.set_cons_succ, List.set_cons_zero]
      have z6 : W0.heap.size ≤ V6.heap.size := by obtain ⟨⟨n, rfl⟩, _⟩ := hv6; exact n.size
      refine Fr.free_take 1 (Fr.class_ne _ _) (by rfl) (by rfl) ?_
      simp only [List.take_succ_cons, List.take_zero, List.drop_succ_cons, List.drop_zero]
      iterate 1 (go_big_quiet_step ((fail)))
      refine wpQuiet_nil ?_
      change Fr.wpFree _ _ _ _ _ _ _ _ 8 _ _
      refine Fr.free_ev rfl rfl (Nat.le_of_ble_eq_true rfl) (fun V hv => ?_) ?_
      · have gx6 := Fr.Valid.hd hv (by kernel_rfl)
        have hX8 := hX6.keep (w' := V) (S' := fun k => k < wB.heap.size ∨ (W0.heap.size ≤ k ∧ k < V.heap.size)) (fun k hk => by
          have g1 := hg6.size
          have g2 := gx6.size
          rcases hk with hk | ⟨h1, h2⟩
          · exact ⟨gx6.block k (by show k < V6'.heap.size; have := hb0B.size; omega), .inl hk⟩
          · exact ⟨gx6.block k h2, .inr ⟨by omega, by have : V6'.heap.size ≤ V.heap.size := g2; omega⟩⟩)
        obtain ⟨⟨n, rfl⟩, _⟩ := hv
        replace hX8 := Lib.hid hX8
        have hfin8 := Lib.hid (show Below n.w.heap.size n.w (n.w.alloc (.cells #[strV r.name, .int .i64 f1.kind, .int .i64 f1.a, .int .i64 f1.b, strV f1.name, .slice A6 f1.kids.length cap6] 40)) from (Below.refl _ _).alloc (Nat.le_refl _) _)
        go_wp2_with fail
        exact ⟨hfin8.out, A6, ⟨cap6, rfl⟩, by rw [← hzB, ← hz0]; exact hX8.out⟩
      rintro _ V8 V8' hv8 hg8 ⟨A8, cap8, rfl, rfl, hX8⟩
      simp only [Act.put, List.setIfInBounds_toArray, List.set_cons_succ, List.set_cons_zero]
      have z8 : W0.heap.size ≤ V8.heap.size := by obtain ⟨⟨n, rfl⟩, _⟩ := hv8; exact n.size
      refine Fr.free_nil ?_
      intro wf hbd hlin
      have gq8 := Fr.Bd.hd hbd
      obtain ⟨mf, hmf⟩ := hbd.1
      have hbf : Below W0.heap.size W0 wf := by rw [hmf]; exact mf.below
      have hzf := hbf.size
      have hgz : V8.heap.size < wf.heap.size := by have := gq8.size; simp at this; omega
      have hlit : ∀ j u, (ruleC ((⟨r.name, f1⟩ : Rule), A8, cap8))[j]? = some u → wf.cell? ⟨V8.heap.size, j, none⟩ = some u := fun j u hu => by
        have := ((Blk.new V8 40 #[strV r.name, .int .i64 f1.kind, .int .i64 f1.a, .int .i64 f1.b, strV f1.name, .slice A8 f1.kids.length cap8]).below gq8 (by simp)).cell j
        rw [this]
        rw [← Array.getElem?_toList]
        exact hu
      have hXf : XOk wf (SetK wB.heap.size wB.heap.size v wf) f1 A8 := hX8.keep fun k hk => by
        have hb8 : Below V8.heap.size V8 wf := ((Below.refl _ _).alloc (Nat.le_refl _) _).trans (gq8.mono (by simp))
        rcases hk with hk | ⟨h1, h2⟩
        · exact ⟨hb8.block k (by have := hb0B.size; omega), .inl hk⟩
        · exact ⟨hb8.block k h2, .inr ⟨by have := hb0B.size; omega, by omega, fun e => by have := (hown.out.lt k e).2; omega⟩⟩
      have hKf := hKs.out wf hbf
      clear hbd hlin hmf hX6 hX8 hv6 hg6 hv8 hg8 gq8
      go_wp2_with (at_builtin; refine wpList_rule rfl (.tmp 38) (.tmp 46) rfl wB.heap.size wB.heap.size V8.heap.size v _ ys hKf (by rw [hel.out]; omega) ((⟨r.name, f1⟩ : Rule), A8, cap8) rfl rfl hlit ⟨hrn1, hXf⟩ (Nat.le_refl _) (by omega) ?_; intro g c w6 hK6 hb6)
      go_roundg (l.length - (i + 1))
      case measure => rw [hqq.out]; omega
      case rel => exact ⟨i + 1, _, _, by omega, rfl, by go_num, rfl, Lib.hid (by rw [hes.out]; rw [hel.out] at hK6; exact hK6), (hb0B.trans (hbf.mono (by omega))).trans hb6⟩
    · obtain rfl : i = l.length := by omega
      have hK1 := hK.out
      rw [List.take_length] at hK1
      have hm : l.map (fun r => (⟨r.name, substE q.name q.expr r.expr⟩ : Rule)) = substR l q.name q.expr := rfl
      rw [hm] at hK1
      have hml : (substR l q.name q.expr).length = l.length := by unfold substR; rw [List.length_map]
      obtain ⟨A5, c5, hv5⟩ := own_slice hK1.own
      have hyl : ys.length = l.length := by have := congrArg List.length hK1.eq; rw [List.length_map, hml] at this; exact this
      rw [hyl] at hv5
      subst hv5
      obtain ⟨wd, env, hme, hwd⟩ := env_exists l day
      have hRm := Lib.hid (fun (W : World) (h : Below wr.heap.size wr W) => (hK1.keep h zr).rules (by omega) (by have := h.size; omega))
      have a1 := Lib.hid (fun (W : World) (h : Below w.heap.size w W) => MAll_any _ l env wd day hme hwd W (hv.out W h))
      have a2 := Lib.hid (fun (W : World) (h : Below wr.heap.size wr W) => MAll_any _ (substR l q.name q.expr) env wd day (fun _ h1 h2 => subst_means (hme hwh.out h1 h2) hq) hwd W (hRm.out W h))
      have hsr := subst_right hwh.out hq
      unfold AllPost at a1 a2
      have c3r : wr.cell? ⟨w.heap.size, 0, none⟩ = some (.slice A0 l.length cap0) := (hbr.cell (p := ⟨w.heap.size, 0, none⟩) y3').trans c33
      have y3r : w.heap.size < wr.heap.size := by omega
      have d1 := Lib.hid (a1.out wr hbrw)
      have hFl : allF l day = if day < 0 ∨ 146097 ≤ day then (3, 0) else (0, 0) := by unfold allF; rw [if_neg (by rw [hwh.out]; decide)]
      have hq4 : ((allF l day).1 == 4) = false := by
        rw [hFl]
        split <;> rfl
      have hcases : (allF (substR l q.name q.expr) day).1 = 4 ∨ (allF (substR l q.name q.expr) day = allF l day ∧ allM (substR l q.name q.expr) env day = allM l env day) := by
        rcases hsr with h0 | h4
        · right
          have hF : allF (substR l q.name q.expr) day = allF l day := by
            rw [hFl]
            unfold allF
            rw [if_neg (by rw [h0]; decide)]
          refine ⟨hF, ?_⟩
          unfold allM
          rw [hF]
          unfold substR
          rw [List.map_map]
          rfl
        · left
          unfold allF
          rw [if_pos (by rw [h4]; decide)]
          exact h4
      clear hsr hFl hme hwd a1
      generalize allF l day = p at *
      generalize allM l env day = S at *
      generalize allF (substR l q.name q.expr) day = p' at *
      generalize allM (substR l q.name q.expr) env day = S' at *
      obtain ⟨p1, p2⟩ := p
      obtain ⟨p1', p2'⟩ := p'
      unfold faultV at d1 a2
      simp only at d1 a2 hq4 hcases
      have hself := eqF_self p1 p2
      clear hK hK1
      go_wp2_with fail
      refine d1.out.mono ?_
      rintro e5 w5 ⟨v5, rfl, hS5, hb5⟩
      obtain ⟨A6, c6, rfl⟩ := own_slice hS5
      have hb5' : Below w.heap.size w w5 := Below.call hbrw hb5 hbrw.size
      have hbA5 : Below w5.heap.size w5 (w5.alloc (.cells #[.int .i64 p1, .int .i64 p2] 25)) := (Below.refl _ _).alloc (Nat.le_refl _) _
      have BF := Blk.new w5 25 #[.int .i64 p1, .int .i64 p2]
      have hR5 := row_reads (own_keep hS5 hbA5 (Nat.le_refl _))
      have hb5r : Below wr.heap.size wr (w5.alloc (.cells #[.int .i64 p1, .int .i64 p2] 25)) := hb5.alloc hb5.size _
      have hb6' := Below.call hb5' hbA5 hb5'.size
      have d2 := Lib.hid (a2.out _ hb5r)
      go_wp2_with fail
      refine d2.out.mono ?_
      rintro e7 w7 ⟨v7, rfl, hS7, hb7⟩
      obtain ⟨A7, c7', rfl⟩ := own_slice hS7
      have hz7 := hb7.size
      simp at hz7
      have BF7 := BF.below hb7 (by simp)
      have x0 : w7.cell? ⟨w5.heap.size, 0, none⟩ = some (.int .i64 p1) := BF7.cell 0
      have x1 : w7.cell? ⟨w5.heap.size, 1, none⟩ = some (.int .i64 p2) := BF7.cell 1
      have hbB7 : Below w7.heap.size w7 (w7.alloc (.cells #[.int .i64 p1', .int .i64 p2'] 25)) := (Below.refl _ _).alloc (Nat.le_refl _) _
      have hR7 := row_reads (own_keep hS7 hbB7 (Nat.le_refl _))
      have hb8' := Below.call (Below.call hb6' hb7 (by simp; have := hb5'.size; omega)) hbB7 (by have := hb5'.size; omega)
      rcases hcases with h4 | ⟨hpe, hSe⟩
      · subst h4
        go_wp2
        go_ret
        exact ⟨rfl, hb8'⟩
      · injection hpe with h1 h2
        subst h1 h2 hSe
        have hSm := Lib.hid (Same_same _ _ (S'.map setW) _ ((hR5.below hb7 (Nat.le_refl _) hb7.size).below hbB7 (by simp) (by simp)) hR7)
        clear hS5 hS7 hR5 hR7 d1 d2 a2
        go_wp2_with fail
        refine hSm.out.mono ?_
        rintro e9 w9 ⟨rfl, hb9⟩
        go_wp2
        go_ret
        exact ⟨rfl, Below.call hb8' hb9 hb8'.size⟩

end Ru
end Go.Proofs.Ytfhedopfjgjffaa
