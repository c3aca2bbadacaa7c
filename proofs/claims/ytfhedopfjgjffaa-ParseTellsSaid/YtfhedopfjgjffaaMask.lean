/- Masks as values of the program: a row of 23 words, read and written in place, held against another one. -/
import Derived.Test.YtfhedopfjgjffaaRows
import Derived.Test.YtfhedopfjgjffaaRowsW
import Derived.Test.YtfhedopfjgjffaaMaskM
import Derived.ChangeKeysEq
import Derived.Laws.Rows
namespace Go.Proofs.Ytfhedopfjgjffaa
open Go.RowKit
namespace Msk

/-- the cells of a mask whose words are f 0, f 1 .. -/
def maskA (f : Nat → Nat) : Array Value := Array.ofFn (n := 23) fun i => .int .u64 (f i.val)
/-- the mask of a set of minutes -/
abbrev setA (p : Nat → Bool) : Array Value := maskA (setW p)

theorem maskA_size (f : Nat → Nat) : (maskA f).size = 23 := by simp [maskA]
theorem maskA_get (f : Nat → Nat) (i : Nat) : (maskA f)[i]? = if i < 23 then some (.int .u64 (f i)) else none := by
  unfold maskA
  rw [Array.getElem?_ofFn]
  split <;> rfl
theorem maskA_congr {f g : Nat → Nat} (h : ∀ k, k < 23 → f k = g k) : maskA f = maskA g := by
  apply Array.ext_getElem?
  intro i
  rw [maskA_get, maskA_get]
  split
  · rw [h i (by assumption)]
  · rfl
theorem maskA_set (f : Nat → Nat) (i v : Nat) : (maskA f).setIfInBounds i (.int .u64 v) = maskA (fun j => if j = i then v else f j) := by
  apply Array.ext_getElem?
  intro j
  rw [Array.getElem?_setIfInBounds, maskA_get, maskA_get, maskA_size]
  by_cases h : i = j
  · subst h
    by_cases h2 : i < 23 <;> simp [h2]
  · rw [if_neg h]
    split
    · rw [if_neg (fun e => h e.symm)]
    · rfl
theorem maskA_inj {f g : Nat → Nat} (h : maskA f = maskA g) {k : Nat} (hk : k < 23) : f k = g k := by
  have := congrArg (·[k]?) h
  simp only [maskA_get, hk, if_true, Option.some.injEq, Value.int.injEq, true_and] at this
  omega
theorem setA_eq {p q : Nat → Bool} : setA p = setA q ↔ ∀ i, i < 1440 → p i = q i :=
  ⟨fun h i hi => setW_inj (fun k hk => maskA_inj h hk) hi, fun h => by unfold setA; rw [setW_congr h]⟩

attribute [go_sem] maskA_size maskA_set
@[go_sem] theorem maskA_get_in (f : Nat → Nat) (i : Nat) (h : i < 23) : (maskA f)[i]? = some (.int .u64 (f i)) := by rw [maskA_get, if_pos h]
@[go_sem] theorem zeroA : (#[.int .u64 0, .int .u64 0, .int .u64 0, .int .u64 0, .int .u64 0, .int .u64 0, .int .u64 0, .int .u64 0, .int .u64 0, .int .u64 0, .int .u64 0, .int .u64 0, .int .u64 0, .int .u64 0, .int .u64 0, .int .u64 0, .int .u64 0,
    .int .u64 0, .int .u64 0, .int .u64 0, .int .u64 0, .int .u64 0, .int .u64 0] : Array Value) = maskA (fun _ => 0) := by
  apply Array.ext_getElem?
  intro i
  rw [maskA_get]
  rcases i with _ | _ | _ | _ | _ | _ | _ | _ | _ | _ | _ | _ | _ | _ | _ | _ | _ | _ | _ | _ | _ | _ | _ | i <;> first | rfl | simp
@[go_sem] theorem maskA_getElem (f : Nat → Nat) (i : Nat) (h : i < (maskA f).size) : (maskA f)[i] = .int .u64 (f i) := by
  have h1 := maskA_get f i
  rw [maskA_size] at h
  rw [if_pos h, Array.getElem?_eq_getElem (by rw [maskA_size]; exact h)] at h1
  exact Option.some.inj h1
theorem zero_set : setA (fun _ => false) = maskA (fun _ => 0) := by
  apply maskA_congr
  intro k _
  apply Nat.eq_of_testBit_eq
  intro j
  rw [setW_bit]
  simp
theorem one_cell (f : Nat → Nat) : ∀ v ∈ (maskA f).toList, v.oneCell' = true := by
  intro v hv
  have : v ∈ maskA f := by simpa using hv
  unfold maskA at this
  rw [Array.mem_ofFn] at this
  obtain ⟨i, rfl⟩ := this
  rfl

theorem run_eqItems_mask {P : Program} {e : TypeId} (he : P.underlying e = some (.int .u64)) (ha : ∀ w, (isAgg e).run P w = .ok false w) (d : Nat) (f g : Nat → Nat) (w : World) : ∀ is : List Nat, (∀ k ∈ is, k < 23) →
    (Op.eqItems (d + 1) e 1 (maskA f) (maskA g) is).run P w = .ok (decide (∀ k ∈ is, f k = g k)) w
  | [], _ => by simp [Op.eqItems]
  | i :: is, h => by
    have hi := h i (by simp)
    have ih := run_eqItems_mask he ha d f g w is (fun k hk => h k (by simp [hk]))
    simp only [Op.eqItems, Nat.mul_one, Sem.run_bind, run_part_plain, ha, Result.andThen_ok, Bool.false_eq_true, if_false, maskA_get_in _ _ hi, Op.equalIn, run_underlying he, if_true, Sem.run_pure]
    by_cases hfg : f i = g i
    · have : ((f i : Int) == (g i : Int)) = true := by rw [beq_iff_eq]; omega
      simp only [this, Bool.not_true, Bool.false_eq_true, if_false, ih]
      simp [hfg]
    · have : ((f i : Int) == (g i : Int)) = false := by rw [beq_eq_false_iff_ne]; omega
      simp only [this, Bool.not_false, if_true, Sem.run_pure]
      simp [hfg]

/-- are two masks one? are two sets? -/
def sameW (f g : Nat → Nat) : Bool := (List.range 23).all fun k => f k == g k
def sameS (p q : Nat → Bool) : Bool := (List.range 1440).all fun i => p i == q i
theorem sameW_all {f g : Nat → Nat} : sameW f g = true ↔ ∀ k, k < 23 → f k = g k := by unfold sameW; simp [List.all_eq_true]
theorem sameS_all {p q : Nat → Bool} : sameS p q = true ↔ ∀ i, i < 1440 → p i = q i := by unfold sameS; simp [List.all_eq_true]
theorem sameW_set (p q : Nat → Bool) : sameW (setW p) (setW q) = sameS p q := by
  rw [Bool.eq_iff_iff, sameW_all, sameS_all]
  exact ⟨fun h i hi => setW_inj h hi, fun h k _ => by rw [setW_congr h]⟩
theorem sameW_iff {f g : Nat → Nat} : sameW f g = true ↔ maskA f = maskA g := by
  rw [sameW_all]
  exact ⟨maskA_congr, fun h k hk => maskA_inj h hk⟩

theorem run_equal_mask {P : Program} {t e : TypeId} {i : TypeInfo} (hu : P.underlying t = some (.array 23 e)) (hi : P.info? e = some i) (hc : P.cellsOf e = 1) (he : P.underlying e = some (.int .u64)) (ha : ∀ w, (isAgg e).run P w = .ok false w) (f g : Nat → Nat) (w : World) :
    (Op.equal t (.agg (maskA f)) (.agg (maskA g))).run P w = .ok (sameW f g) w := by
  have := run_equalIn_array w 9999 (maskA f) (maskA g) hu hi
  unfold Op.equal Op.maxDepth
  rw [this, hc, run_eqItems_mask he ha 9998 f g w _ (fun k hk => by simpa using hk)]
  congr 1
  rw [Bool.eq_iff_iff, sameW_all]
  simp

@[go_sem] theorem run_equalIn_mask (f g : Nat → Nat) (w : World) : (Op.equalIn 10000 46 (.agg (maskA f)) (.agg (maskA g))).run Try.prog w = .ok (sameW f g) w :=
  run_equal_mask (P := Try.prog) (t := 46) (e := 44) (i := Try.t44) Try.underlying46 (by kernel_rfl) (by kernel_rfl) Try.underlying44 (fun w => Try.isAgg44 w) f g w

/-- a whole mask loaded, stored -/
@[go_sem ↓] theorem fold_loadMask (a : Addr) : loadCellsFrom a 0 23 #[] = loadRow 23 a := rfl
@[go_sem] theorem run_storeMask {P : Program} (w : World) (g : Nat) (f : Nat → Nat) :
    (storeCells ⟨g, 0, none⟩ (maskA f).toList 0).run P w = if freeRow w g 23 = true then .ok () (w.setRow g (maskA f)) else (storeRaw ⟨g, 0, none⟩ (maskA f)).run P w :=
  run_storeRow w g 23 _ (maskA_size f) (one_cell f)

theorem blk_cells {w : World} {g : Nat} {t : TypeId} {f : Nat → Nat} (h : Blk w g t (maskA f)) : cellsAt w g 0 23 = some (maskA f) := by have := h.cells; rwa [maskA_size] at this
theorem blk_free {w : World} {g : Nat} {t : TypeId} {f : Nat → Nat} (h : Blk w g t (maskA f)) : freeRow w g 23 = true := by have := h.free; rwa [maskA_size] at this

theorem maskA_ones (f : Nat → Nat) (i : Nat) : (maskA f).setIfInBounds i (.int .u64 18446744073709551615) = maskA (fun j => if j = i then 18446744073709551615 else f j) := maskA_set f i 18446744073709551615

/-- one bit put into a word -/
theorem or_bit (x m : Nat) (hx : x < 18446744073709551616) (hm : m < 64) : bits .or .u64 (x : Int) (IntKind.u64.wrap (2 ^ m)) = ((x ||| 2 ^ m : Nat) : Int) := by
  have hp : 2 ^ m < 18446744073709551616 := (show 2 ^ m < 2 ^ 64 from Nat.pow_lt_pow_right (by omega) hm)
  have e : IntKind.u64.wrap (2 ^ m) = ((2 ^ m : Nat) : Int) := by
    have h2 : ((2 : Int) ^ m) = ((2 ^ m : Nat) : Int) := by rw [Int.natCast_pow]; rfl
    rw [h2]
    generalize 2 ^ m = y at hp
    exact IntWalk.u64_in _ (by omega)
  rw [e]
  exact u64_or_nat x (2 ^ m) hx hp

end Msk
end Go.Proofs.Ytfhedopfjgjffaa
