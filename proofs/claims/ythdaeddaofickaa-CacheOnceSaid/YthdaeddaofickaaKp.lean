/- The cache of chapter 9, plainly: what is kept, in which order. No walk. -/
import Derived.KernelRfl
namespace Go.Proofs.Ythdaeddaofickaa
namespace Kp

/-- what a rule meant on a day, as of a version; its mask by words -/
structure Kept where
  rule : Int
  day : Int
  ver : Int
  mask : Nat → Nat

/-- the first one of a rule's day -/
def place (k : List Kept) (rule day : Int) : Nat := k.findIdx fun x => decide (x.rule = rule) && decide (x.day = day)
def gone (k : List Kept) (rule day : Int) : List Kept := k.eraseIdx (place k rule day)
/-- is it kept, as of its version? -/
def hit (k : List Kept) (rule day ver : Int) : Bool := match k[place k rule day]? with | some x => decide (x.ver = ver) | none => false
def cut (k : List Kept) : List Kept := if 64 < k.length then k.drop (k.length - 64) else k
def hitMask (k : List Kept) (rule day : Int) : Nat → Nat := ((k[place k rule day]?).map Kept.mask).getD fun _ => 0
/-- what is kept then; m: what the machine says -/
def after (k : List Kept) (rule day ver : Int) (m : Nat → Nat) : List Kept :=
  if hit k rule day ver = true then gone k rule day ++ [⟨rule, day, ver, hitMask k rule day⟩] else cut (gone k rule day ++ [⟨rule, day, ver, m⟩])

def key (x : Kept) : Int × Int := (x.rule, x.day)
theorem place_le (k : List Kept) (rule day : Int) : place k rule day ≤ k.length := List.findIdx_le_length
theorem place_key {k : List Kept} {rule day : Int} {x : Kept} (h : k[place k rule day]? = some x) : x.rule = rule ∧ x.day = day := by
  obtain ⟨hi, e⟩ := List.getElem?_eq_some_iff.1 h
  have hi' : List.findIdx (fun x : Kept => decide (x.rule = rule) && decide (x.day = day)) k < k.length := hi
  have := List.findIdx_getElem (xs := k) (p := fun x : Kept => decide (x.rule = rule) && decide (x.day = day)) (w := hi')
  simp only [Bool.and_eq_true, decide_eq_true_eq] at this
  have e' : k[List.findIdx (fun x : Kept => decide (x.rule = rule) && decide (x.day = day)) k]'hi' = x := e
  rw [e'] at this
  exact this
theorem erase_map {α β : Type} (f : α → β) : ∀ (l : List α) (n : Nat), (l.eraseIdx n).map f = (l.map f).eraseIdx n
  | [], _ => by simp
  | x :: l, 0 => by simp
  | x :: l, n + 1 => by simp [erase_map f l n]
theorem gone_length {k : List Kept} {rule day : Int} : (gone k rule day).length = if place k rule day < k.length then k.length - 1 else k.length := by
  unfold gone
  rw [List.length_eraseIdx]
/-- each rule's day once, and no more than so many -/
def Once (k : List Kept) : Prop := (k.map key).Nodup ∧ k.length ≤ 64
theorem gone_key {k : List Kept} {rule day : Int} (h : (k.map key).Nodup) : ∀ x ∈ gone k rule day, key x ≠ (rule, day) := by
  intro x hx e
  unfold gone at hx
  obtain ⟨j, hj⟩ := List.getElem?_of_mem hx
  rw [List.getElem?_eraseIdx] at hj
  simp only [key, Prod.mk.injEq] at e
  split at hj
  · rename_i hlt
    have := List.not_of_lt_findIdx (xs := k) (p := fun x : Kept => decide (x.rule = rule) && decide (x.day = day)) hlt
    obtain ⟨hjl, hje⟩ := List.getElem?_eq_some_iff.1 hj
    rw [hje] at this
    simp [e] at this
  · rename_i hge
    have hp : place k rule day < k.length := by
      have := (List.getElem?_eq_some_iff.1 hj).1
      omega
    obtain ⟨y, hy⟩ : ∃ y, k[place k rule day]? = some y := ⟨_, List.getElem?_eq_getElem hp⟩
    have hk := place_key hy
    have h1 : (k.map key)[place k rule day]? = some (rule, day) := by rw [List.getElem?_map, hy]; simp [key, hk]
    have h2 : (k.map key)[j + 1]? = some (rule, day) := by rw [List.getElem?_map, hj]; simp [key, e]
    have := (List.getElem?_inj (by rw [List.length_map]; exact hp) h).1 (h1.trans h2.symm)
    omega
theorem once_after {k : List Kept} (h : Once k) (rule day ver : Int) (m : Nat → Nat) : Once (after k rule day ver m) := by
  have hg : ((gone k rule day).map key).Nodup := by
    unfold gone
    exact List.Nodup.sublist (List.Sublist.map key (List.eraseIdx_sublist k _)) h.1
  have hn : ∀ q : Nat → Nat, ((gone k rule day ++ [(⟨rule, day, ver, q⟩ : Kept)]).map key).Nodup := fun q => by
    rw [List.map_append, List.nodup_append]
    refine ⟨hg, by simp, fun a ha b hb => ?_⟩
    obtain ⟨x, hx, rfl⟩ := List.mem_map.1 ha
    simp [key] at hb
    rw [hb]
    exact gone_key h.1 x hx
  have hl : (gone k rule day).length ≤ 64 := by rw [gone_length]; have := h.2; split <;> omega
  unfold after
  split
  · rename_i hh
    refine ⟨hn (hitMask k rule day), ?_⟩
    rw [List.length_append, gone_length]
    unfold hit at hh
    split at hh
    · rename_i x hx
      have := (List.getElem?_eq_some_iff.1 hx).1
      rw [if_pos this]
      have := h.2
      simp
      omega
    · cases hh
  · unfold cut
    split
    · refine ⟨?_, ?_⟩
      · rw [List.map_drop]
        exact List.Nodup.sublist (List.drop_sublist _ _) (hn m)
      · rw [List.length_drop]; omega
    · exact ⟨hn m, by omega⟩
/-- the last one is what was asked for -/
theorem after_last (k : List Kept) (rule day ver : Int) (m : Nat → Nat) : ∃ l q, after k rule day ver m = l ++ [⟨rule, day, ver, q⟩] ∧ (q = m ∨ q = hitMask k rule day) := by
  unfold after
  split
  · exact ⟨_, _, rfl, .inr rfl⟩
  · unfold cut
    split
    · rename_i h
      refine ⟨(gone k rule day).drop ((gone k rule day ++ [(⟨rule, day, ver, m⟩ : Kept)]).length - 64), m, ?_, .inl rfl⟩
      rw [List.drop_append_of_le_length]
      simp only [List.length_append, List.length_singleton] at h ⊢
      omega
    · exact ⟨_, _, rfl, .inl rfl⟩
/-- what is kept is right: masks are the machine's -/
def Right (R : Int → Int → (Nat → Nat) → Prop) (k : List Kept) : Prop := ∀ x ∈ k, R x.rule x.day x.mask
theorem right_after {R : Int → Int → (Nat → Nat) → Prop} {k : List Kept} (h : Right R k) {rule day ver : Int} {m : Nat → Nat} (hm : R rule day m) : Right R (after k rule day ver m) := by
  have hg : ∀ x ∈ gone k rule day, R x.rule x.day x.mask := fun x hx => h x ((List.eraseIdx_sublist k _).subset hx)
  unfold after
  split
  · rename_i hh
    intro x hx
    rcases List.mem_append.1 hx with hx | hx
    · exact hg x hx
    · simp at hx
      subst hx
      unfold hit at hh
      split at hh
      · rename_i y hy
        have hk := place_key hy
        have := h y (List.mem_of_getElem? hy)
        rw [hk.1, hk.2] at this
        simpa [hitMask, hy] using this
      · cases hh
  · have hall : ∀ x ∈ gone k rule day ++ [(⟨rule, day, ver, m⟩ : Kept)], R x.rule x.day x.mask := fun x hx => by
      rcases List.mem_append.1 hx with hx | hx
      · exact hg x hx
      · simp at hx; subst hx; exact hm
    unfold cut
    split
    · exact fun x hx => hall x (List.mem_of_mem_drop hx)
    · exact hall

/-- what was asked for last, as the law keeps it -/
abbrev Ask := Int × Int × Int
def asks (k : List Kept) : List Ask := k.map fun x => (x.rule, x.day, x.ver)
def placeA (l : List Ask) (rule day : Int) : Nat := l.findIdx fun x => decide (x.1 = rule) && decide (x.2.1 = day)
def hadA (l : List Ask) (rule day ver : Int) : Bool := match l[placeA l rule day]? with | some x => decide (x.2.2 = ver) | none => false
def cutA (l : List Ask) : List Ask := if 64 < l.length then l.drop 1 else l
def afterA (l : List Ask) (rule day ver : Int) : List Ask := cutA (l.eraseIdx (placeA l rule day) ++ [(rule, day, ver)])
theorem place_asks (k : List Kept) (rule day : Int) : placeA (asks k) rule day = place k rule day := by
  unfold placeA asks place
  rw [List.findIdx_map]
  rfl
theorem had_asks (k : List Kept) (rule day ver : Int) : hadA (asks k) rule day ver = hit k rule day ver := by
  unfold hadA hit
  rw [place_asks]
  unfold asks
  rw [List.getElem?_map]
  cases k[place k rule day]? <;> rfl
theorem asks_after {k : List Kept} (h : Once k) (rule day ver : Int) (m : Nat → Nat) : asks (after k rule day ver m) = afterA (asks k) rule day ver := by
  have hl : (gone k rule day).length ≤ 64 := by rw [gone_length]; have := h.2; split <;> omega
  have he : ∀ q : Nat → Nat, asks (gone k rule day ++ [⟨rule, day, ver, q⟩]) = (asks k).eraseIdx (placeA (asks k) rule day) ++ [(rule, day, ver)] := fun q => by
    rw [place_asks]
    unfold asks gone
    rw [List.map_append, erase_map]
    rfl
  have hlen : ∀ q : Nat → Nat, ((asks k).eraseIdx (placeA (asks k) rule day) ++ [(rule, day, ver)]).length = (gone k rule day ++ [(⟨rule, day, ver, q⟩ : Kept)]).length := fun q => by
    rw [← he q]; simp [asks]
  unfold after afterA
  split
  · rename_i hh
    rw [he]
    unfold cutA
    rw [if_neg]
    rw [hlen (fun _ => 0), List.length_append, gone_length]
    unfold hit at hh
    split at hh
    · rename_i x hx
      have := (List.getElem?_eq_some_iff.1 hx).1
      rw [if_pos this]
      have := h.2
      simp
      omega
    · cases hh
  · unfold cut cutA
    rw [hlen m, ← he m]
    split
    · rename_i hc
      have : (gone k rule day ++ [(⟨rule, day, ver, m⟩ : Kept)]).length - 64 = 1 := by simp at hc ⊢; omega
      rw [this]
      simp [asks]
    · rfl

end Kp
end Go.Proofs.Ythdaeddaofickaa
