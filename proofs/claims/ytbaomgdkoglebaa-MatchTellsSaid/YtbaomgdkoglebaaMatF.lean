/- The walk of match.fill: roles filled one after the other, by the least resources that can. -/
import Derived.Test.YtbaomgdkoglebaaMatS
import Derived.Test.YtbaomgdkoglebaaMskH
import Derived.Deep.RegionLaw
import Derived.Deep.AppendLies
import Derived.Deep.DeepAppendRoom
import Derived.Deep.Onto
import Derived.Maps.Range
import Derived.Maps.RangeWalk
namespace Go.Proofs.Ytbaomgdkoglebaa
open Go.RowKit
namespace Mat

/-- roles filled, behind those that are -/
def fillL (free : Int → Bool) : List (List Int) → List Int → Option (List Int)
  | [], who => some who
  | p :: ps, who => p.findSome? fun r => if who.contains r = true ∨ free r = false then none else fillL free ps (who ++ [r])

theorem findSome_at {F : Int → Option (List Int)} {p : List Int} {j : Nat} {r : Int} (h : p[j]? = some r) : (p.drop j).findSome? F = (F r).or ((p.drop (j + 1)).findSome? F) := by
  obtain ⟨hi, rfl⟩ := List.getElem?_eq_some_iff.1 h
  rw [List.drop_eq_getElem_cons hi, List.findSome?_cons]
  cases F p[j] <;> rfl

/-- when a resource is free for a span -/
def freeAt (ms : List (Nat → Nat)) (a b : Int) (r : Int) : Bool := match ms[r.toNat]? with | some f => Msk.holdsB f a b | none => false

/-- what fill leaves -/
def FillPost (base : Nat) (v : Value) (who : List Int) (res : Option (List Int)) (w : World) (e : Ending) (w' : World) : Prop :=
  w.grownBy w' v.ownBlock ∧ w'.ownsRow base 3 1 v who.length (who.map (Value.int .i64)) ∧
    ((∃ out l, res = some l ∧ e = .returned (.tuple #[out, .bool true]) ∧ w'.ownsRow w.heap.size 3 1 out l.length (l.map (Value.int .i64))) ∨ (res = none ∧ e = .returned (.tuple #[.slice none 0 0, .bool false])))

/-- what a call that goes on with the longer row leaves of the shorter one -/
def Back (base : Nat) (e : TypeId) (v : Value) (n : Nat) (xs : List Value) (x : Value) (w : World) (g cap : Nat) (w' : World) : Prop :=
  ∀ w2, w'.grownBy w2 (some g) → w2.ownsRow base e 1 (.slice (some ⟨g, 0, none⟩) (n + 1) cap) (n + 1) (xs ++ [x]) → w.grownBy w2 v.ownBlock ∧ w2.ownsRow base e 1 v n xs

section
variable {P : Program} (w : World)
theorem run_append_back (base : Nat) (t ty e : TypeId) (i : TypeInfo) (z : Value) (bytes : Nat) (ht : P.underlying t = some (.slice e)) (hi : P.info? e = some i) (hz : i.zero = some z)
    (hsize : i.size = 1) (hby : i.bytes = bytes) (hzs : z.cells.size = 1)
    (v : Value) (n : Nat) (xs : List Value) (hown : w.ownsRow base e 1 v n xs)
    (ad : Addr) (c : Nat) (x : Value) (hnews : ∀ j u, [x][j]? = some u → w.cell? (ad.add j) = some u) (h1 : ∀ u ∈ [x], u.oneCell' = true)
    (h63 : n + 1 ≤ maxLen) (hbytes : (n + 1) * bytes ≤ 140737488355328) (hbase : base ≤ w.heap.size) :
    ∃ g cap w', (Builtin.append_ #[t, t] ty #[v, .slice (some ad) 1 c]).run P w = .ok (.slice (some ⟨g, 0, none⟩) (n + 1) cap) w' ∧
      w'.ownsRow base e 1 (.slice (some ⟨g, 0, none⟩) (n + 1) cap) (n + 1) (xs ++ [x]) ∧ w.grownBy w' v.ownBlock ∧ (v.ownBlock = some g ∨ w.heap.size ≤ g) ∧ g < w'.heap.size ∧ Back base e v n xs x w g cap w' := by
  rcases hown.2 with ⟨rfl, rfl⟩ | ⟨g, cap, cur, rfl, hbg, hg, hnc, hcm, hcs, htake⟩
  · have hx : xs = [] := List.eq_nil_of_length_eq_zero (by simpa using hown.1)
    subst hx
    obtain ⟨v', w', hr, h2, h3, _⟩ := run_append_own (P := P) w w.heap.size t ty e i z 1 bytes ht hi hz hsize hby hzs (by decide) (.slice none 0 0) 0 [] (World.ownsRow_nil w _ e 1) ad 1 c [x] rfl hnews h1 h63 hbytes (Nat.le_refl _)
    obtain ⟨g, cap, rfl, hge, hlt⟩ := h2.form (by omega)
    exact ⟨g, cap, w', hr, h2.mono hbase, h3, .inr hge, hlt, fun w2 k1 _ => ⟨h3.andThen k1 (fun j hj => .inl (by cases hj; exact hge)), World.ownsRow_nil w2 _ e 1⟩⟩
  · by_cases hroom : n + 1 ≤ cap
    · obtain ⟨w', hr, h2, h3⟩ := run_append_own_spare (P := P) w base t ty e i 1 ht hi hsize g n cap xs hown ad 1 c [x] rfl hnews h1 hroom
      have hlt : g < w'.heap.size := by
        obtain ⟨g', cap', e1, _, h⟩ := h2.form (by omega)
        cases e1; exact h
      refine ⟨g, cap, w', hr, h2, h3, .inl rfl, hlt, fun w2 k1 k2 => ⟨h3.trans k1, hown.1, ?_⟩⟩
      rcases k2.2 with ⟨h0, _⟩ | ⟨g', cap', cur2, e1, kb, kg, _, kc, kcs, kt⟩
      · cases h0
      · cases e1
        refine .inr ⟨g, cap, cur2, rfl, kb, kg, hnc, kc, kcs, ?_⟩
        have h5 := congrArg (List.take (n * 1)) kt
        rw [List.take_take, Nat.min_eq_left (by omega), List.take_append_of_le_length (by rw [hown.1]; omega)] at h5
        exact h5.trans (List.take_of_length_le (by rw [hown.1]; omega))
    · have holds : ∀ j u, xs[j]? = some u → w.cell? ((⟨g, 0, none⟩ : Addr).add j) = some u := hown.cells (g := g) rfl
      obtain ⟨v', w', hr, h2, h3⟩ := run_append_arg_grows (P := P) w t ty e i z 1 bytes ht hi hz hsize hby hzs (by decide) ⟨g, 0, none⟩ n cap xs hown.1 holds ad 1 c [x] rfl hnews (by omega) h63 hbytes
      obtain ⟨g', cap', rfl, hge, hlt⟩ := h2.form (by omega)
      exact ⟨g', cap', w', hr, h2.mono hbase, h3.but _, .inr hge, hlt, fun w2 k1 _ =>
        have k := h3.andThen k1 (fun j hj => .inl (by cases hj; exact hge))
        ⟨k.but _, hown.kept k (by simp [Value.ownBlock])⟩⟩

theorem step_append_back {ops : Array Oper} {o : Oper} {a : Act} {K : Act → World → Prop} {Q : Exit → Act → World → Prop} {E : Prop} (hgd : o.guard = none) (s x : Operand) (t : TypeId)
    (ho : o.op = .call { callee := .builtin .append, args := #[s, x], argTypes := #[t, t] })
    (base : Nat) (e : TypeId) (i : TypeInfo) (z : Value) (bytes : Nat) (ht : P.underlying t = some (.slice e)) (hi : P.info? e = some i) (hz : i.zero = some z)
    (hsize : i.size = 1) (hby : i.bytes = bytes) (hzs : z.cells.size = 1)
    (v : Value) (n : Nat) (xs : List Value) (hs : a.eval s = v) (hown : w.ownsRow base e 1 v n xs)
    (ad : Addr) (c : Nat) (y : Value) (hx : a.eval x = .slice (some ad) 1 c) (hnews : ∀ j u, [y][j]? = some u → w.cell? (ad.add j) = some u) (h1 : ∀ u ∈ [y], u.oneCell' = true)
    (h63 : n + 1 ≤ maxLen) (hbytes : (n + 1) * bytes ≤ 140737488355328) (hbase : base ≤ w.heap.size)
    (h : ∀ g cap w', w'.ownsRow base e 1 (.slice (some ⟨g, 0, none⟩) (n + 1) cap) (n + 1) (xs ++ [y]) → w.grownBy w' v.ownBlock → (v.ownBlock = some g ∨ w.heap.size ≤ g) → g < w'.heap.size → Back base e v n xs y w g cap w' → K (a.put o.dst (.slice (some ⟨g, 0, none⟩) (n + 1) cap)) w') :
    if Region.wanted o (yielded ops a.tmps) = true then Oper.wp P o a w K Q else E := by
  have hw : Region.wanted o (yielded ops a.tmps) = true := by simp [Region.wanted, hgd]
  rw [if_pos hw]
  obtain ⟨g, cap, w', hr, h2, h3, h4, h5, h6⟩ := run_append_back (P := P) w base t o.type e i z bytes ht hi hz hsize hby hzs v n xs hown ad c y hnews h1 h63 hbytes hbase
  unfold Oper.wp execOp
  simp only [ho, resolve, invoke, builtin, Sem.run_bind, Sem.run_pure, Result.andThen_ok, List.map_toArray, List.map_cons, List.map_nil, hs, hx, hr]
  exact h g cap w' h2 h3 h4 h5 h6
end

set_option maxHeartbeats 2000000 in
theorem fill_end (rolesV freeV v : Value) (roles : List (List Int)) (a b : Int) (who : List Int) (w : World) (base : Nat) (hr : Sl.Ints2V w base rolesV roles) (hwho : who.length = roles.length) (hlen : roles.length ≤ 4)
    (hown : w.ownsRow base 3 1 v who.length (who.map (Value.int .i64))) :
    Calls Try.prog 34 #[rolesV, freeV, .agg #[.int .i64 a, .int .i64 b], v] w (FillPost base v who (some who) w) := by
  obtain ⟨A, cap, rfl, hl2, hc⟩ := hr
  have hv : ∃ A2 cap2, v = .slice A2 who.length cap2 := by
    rcases hown.2 with ⟨rfl, h0⟩ | ⟨g, cp, _, rfl, _⟩
    · exact ⟨none, 0, by rw [h0]⟩
    · exact ⟨_, cp, rfl⟩
  have hcl : ∀ W : World, (∃ o, W = w.alloc o) → Calls Try.prog 42 #[v] W fun e w' => ∃ v', e = .returned v' ∧ Below W.heap.size W w' ∧ w'.ownsRow W.heap.size 3 1 v' who.length (who.map (Value.int .i64)) := fun W ⟨o, h⟩ => by
    subst h
    exact Sl.Clone_row base v who _ (by omega) (hown.alloc o)
  replace hcl := Lib.hid hcl
  replace hown := Lib.hid hown
  obtain ⟨A2, cap2, rfl⟩ := hv
  have g : ((who.length : Int) == (roles.length : Int)) = true := by simp [hwho]
  replace hwho := Lib.hid hwho
  replace hc := Lib.hid hc
  go_enter Try.func34, Try.ntmps34
  go_wp2_with fail
  refine (hcl.out _ ⟨_, rfl⟩).mono ?_
  rintro e w1 ⟨v', rfl, hb, hi⟩
  go_wp2
  go_ret2
  have hbw : Below w.heap.size w w1 := ((Below.refl _ _).alloc (Nat.le_refl _) _).trans (hb.mono (by simp))
  have hg : w.grownBy w1 none := ⟨hbw.os, hbw.tape, hbw.output, hbw.size, fun i hi _ => hbw.block i hi⟩
  refine ⟨hg.but _, hown.out.kept hg (by cases (Value.slice A2 who.length cap2).ownBlock <;> simp), .inl ⟨_, _, rfl, rfl, hi.mono (by simp)⟩⟩

/-- what the loop over a pool finds -/
def pick (G : Int → Option (List Int)) (free : Int → Bool) (who : List Int) (r : Int) : Option (List Int) := if who.contains r = true ∨ free r = false then none else G r

def LongPost (base : Nat) (v : Value) (n : Nat) (xs : List Value) (res : Option (List Int)) (w : World) (e : Ending) (w' : World) : Prop :=
  w.grownBy w' v.ownBlock ∧ w'.ownsRow base 3 1 v n xs ∧
    ((∃ out l, res = some l ∧ e = .returned (.tuple #[out, .bool true]) ∧ w'.ownsRow w.heap.size 3 1 out l.length (l.map (Value.int .i64))) ∨ (res = none ∧ e = .returned (.tuple #[.slice none 0 0, .bool false])))

theorem below_own {base e n : Nat} {v : Value} {xs : List Value} {w w' : World} (hb : base ≤ w.heap.size) (h : w.ownsRow base e 1 v n xs) (hg : w.grownBy w' v.ownBlock) : Below base w w' :=
  ⟨hg.os, hg.tape, hg.output, hg.size, fun k hk => hg.block k (by omega) fun e => by have := h.lt k e.symm; omega⟩

theorem grownBy_below {B : Nat} {w w' : World} (h : Below B w w') (hB : w.heap.size ≤ B) (row : Option Nat) : w.grownBy w' row :=
  ⟨h.os, h.tape, h.output, h.size, fun k hk _ => h.block k (by omega)⟩
theorem own_below {B base e n : Nat} {v : Value} {xs : List Value} {w w' : World} (h : w.ownsRow base e 1 v n xs) (k : Below B w w') (hB : w.heap.size ≤ B) : w'.ownsRow base e 1 v n xs :=
  h.kept (grownBy_below k hB none) (by cases v.ownBlock <;> simp)

set_option maxHeartbeats 4000000 in
theorem fill_step (rolesV freeV v : Value) (roles : List (List Int)) (ms : List (Nat → Nat)) (a b : Int) (who p : List Int) (w : World) (base : Nat) (G : Int → Option (List Int))
    (hr : Sl.Ints2V w base rolesV roles) (hm : Sl.MasksV w base freeV ms) (hp : roles[who.length]? = some p) (hlen : roles.length ≤ 4) (hbase : base ≤ w.heap.size)
    (hown : w.ownsRow base 3 1 v who.length (who.map (Value.int .i64))) (hpb : ∀ r ∈ p, 0 ≤ r ∧ r < ms.length)
    (ih : ∀ r ∈ p, ∀ W g cap, Below base w W → base ≤ W.heap.size → W.ownsRow base 3 1 (.slice (some ⟨g, 0, none⟩) (who.length + 1) cap) (who.length + 1) (who.map (Value.int .i64) ++ [.int .i64 r]) →
      Calls Try.prog 34 #[rolesV, freeV, .agg #[.int .i64 a, .int .i64 b], .slice (some ⟨g, 0, none⟩) (who.length + 1) cap] W
        (LongPost base (.slice (some ⟨g, 0, none⟩) (who.length + 1) cap) (who.length + 1) (who.map (Value.int .i64) ++ [.int .i64 r]) (G r) W)) :
    Calls Try.prog 34 #[rolesV, freeV, .agg #[.int .i64 a, .int .i64 b], v] w (LongPost base v who.length (who.map (Value.int .i64)) (p.findSome? (pick G (freeAt ms a b) who)) w) := by
  obtain ⟨A, cap, rfl, hl2, hc⟩ := hr
  obtain ⟨hwl, _⟩ := List.getElem?_eq_some_iff.1 hp
  obtain ⟨b1, o1, rfl, hb1, u, c1, A3, cap3, rfl, hl3, hc3⟩ := hc _ _ hp
  have hm2 := hm
  obtain ⟨A4, cap4, rfl, hl4, hc4⟩ := hm2
  have hv : ∃ A2 cap2, v = .slice A2 who.length cap2 := by
    rcases hown.2 with ⟨rfl, h0⟩ | ⟨g, cp, _, rfl, _⟩
    · exact ⟨none, 0, by rw [h0]⟩
    · exact ⟨_, cp, rfl⟩
  obtain ⟨A2, cap2, rfl⟩ := hv
  have hb1' : b1 < w.heap.size := by omega
  have g : ((who.length : Int) == (roles.length : Int)) = false := by rw [beq_eq_false_iff_ne]; omega
  replace hc := Lib.hid hc
  replace hc3 := Lib.hid hc3
  replace hc4 := Lib.hid hc4
  replace hm := Lib.hid hm
  replace hown := Lib.hid hown
  replace hp := Lib.hid hp
  replace hpb := Lib.hid hpb
  replace ih := Lib.hid ih
  go_enter Try.func34, Try.ntmps34
  go_wp2
  clear c1 g
  go_loopg [27] p.length (fun n k wr => ∃ j : Nat, j ≤ p.length ∧ n = p.length - j ∧ k = .int .i64 j ∧ (p.drop j).findSome? (pick G (freeAt ms a b) who) = p.findSome? (pick G (freeAt ms a b) who) ∧
    w.grownBy wr (Value.slice A2 who.length cap2).ownBlock ∧ wr.ownsRow base 3 1 (.slice A2 who.length cap2) who.length (who.map (Value.int .i64)) ∧ w.heap.size < wr.heap.size ∧ Blk wr w.heap.size 61 #[.int .i64 a, .int .i64 b])
  case atStart => exact ⟨0, by omega, rfl, rfl, rfl, World.grownBy_alloc w _ _, hown.out.alloc _, by simp, Blk.new _ _ _⟩
  case round =>
    obtain ⟨j, hj, hn, rfl, hres, hg, ho, hsz, hblk⟩ := hrel
    have hbb := below_own hbase hown.out hg
    replace hn := Lib.hid hn
    replace hres := Lib.hid hres
    replace hg := Lib.hid hg
    replace ho := Lib.hid ho
    by_cases hlt : j < p.length
    · obtain ⟨r, hx⟩ : ∃ r, p[j]? = some r := ⟨_, List.getElem?_eq_getElem hlt⟩
      obtain ⟨b3, o3, rfl, hb3, c3⟩ := hc3.out j r hx
      have d3 : wr.cell? ⟨b3, o3 + j, none⟩ = some (.int .i64 r) := (hbb.cell (p := ⟨b3, _, none⟩) hb3).trans c3
      have hrp : r ∈ p := List.mem_of_getElem? hx
      obtain ⟨hr0, hr1⟩ := hpb.out r hrp
      obtain ⟨q, rfl⟩ := Int.eq_ofNat_of_zero_le hr0
      have hq : q < ms.length := by omega
      obtain ⟨f, hf⟩ : ∃ f, ms[q]? = some f := ⟨_, List.getElem?_eq_getElem hq⟩
      obtain ⟨b4, o4, rfl, hb4, c4, hok⟩ := hc4.out q f hf
      have d4 : cellsAt wr b4 (o4 + q * 23) 23 = some (Msk.maskA f) := by
        obtain ⟨A', cap', e', _, hc'⟩ := hm.out.below hbb (Nat.le_refl _) (Nat.le_refl _)
        cases e'
        obtain ⟨b', o', e2, _, h', _⟩ := hc' q f hf
        cases e2
        exact h'
      have hfr := Lib.hid (show freeAt ms a b (q : Int) = Msk.holdsB f a b by simp [freeAt, hf])
      have hst := Lib.hid (findSome_at (F := pick G (freeAt ms a b) who) hx)
      have k0 : wr.cell? ⟨w.heap.size, 0, none⟩ = some (.int .i64 a) := hblk.cell 0
      have k1 : wr.cell? ⟨w.heap.size, 1, none⟩ = some (.int .i64 b) := hblk.cell 1
      have hcon : ∀ W, Below wr.heap.size wr W → Calls Try.prog 43 #[.slice A2 who.length cap2, .int .i64 (q : Int)] W fun e w' => e = .returned (.bool (who.contains (q : Int))) ∧ W = w' :=
        fun W h => Sl.Contains_any _ who _ W wr.heap.size ((Sl.IntsV.of_own ho.out (by omega) (Nat.le_refl _)).below h (Nat.le_refl _) (Nat.le_refl _))
      have hhol : ∀ W, Calls Try.prog 39 #[.agg (Msk.maskA f), .agg #[.int .i64 a, .int .i64 b]] W fun e w' => e = .returned (.bool (Msk.holdsB f a b)) ∧ Below W.heap.size W w' := fun W => Msk.Holds_any f a b W hok
      have z := hbb.size
      have hb3' : b3 < wr.heap.size := by omega
      have hb4' : b4 < wr.heap.size := by omega
      clear c3 c4 hx hf hr0
      by_cases hsk : who.contains (q : Int) = true ∨ Msk.holdsB f a b = false
      · have hres2 := Lib.hid (show (p.drop (j + 1)).findSome? (pick G (freeAt ms a b) who) = p.findSome? (pick G (freeAt ms a b) who) by
          rw [← hres.out, hst.out, pick, hfr.out, if_pos hsk]; rfl)
        rcases hcv : who.contains (q : Int) with _ | _
        · rcases hhv : Msk.holdsB f a b with _ | _
          · rw [hcv] at hcon
            rw [hhv] at hhol
            replace hcon := Lib.hid hcon
            replace hhol := Lib.hid hhol
            clear hsk hcv hhv
            go_wp2
            refine wp_region_below (wr.heap.size) _ (Below.refl _ _) (by kernel_rfl) (by kernel_rfl) ?_
            repeat (go_big_quiet_step ((first | (go_at_call 43; exact quiet_same (hcon.out _ (After.below _))) | (go_at_call 39; exact quiet_below (Nat.le_refl _) (hhol.out _)))))
            refine wpQuiet_nil ?_
            rintro _ ⟨n1, rfl⟩
            go_wp2
            go_roundg (p.length - (j + 1))
            case measure => rw [hn.out]; omega
            case rel => exact ⟨j + 1, by omega, rfl, by go_num, hres2.out, hg.out.trans (grownBy_below n1.below (Nat.le_refl _) _), own_below ho.out n1.below (Nat.le_refl _), by have := n1.size; omega, hblk.below n1.below hsz⟩
          · exfalso; rw [hcv, hhv] at hsk; simp at hsk
        · rw [hcv] at hcon
          replace hcon := Lib.hid hcon
          replace hhol := Lib.hid hhol
          clear hsk hcv
          go_wp2
          refine wp_region_below (wr.heap.size) _ (Below.refl _ _) (by kernel_rfl) (by kernel_rfl) ?_
          repeat (go_big_quiet_step ((first | (go_at_call 43; exact quiet_same (hcon.out _ (After.below _))) | (go_at_call 39; exact quiet_below (Nat.le_refl _) (hhol.out _)))))
          refine wpQuiet_nil ?_
          rintro _ ⟨n1, rfl⟩
          go_wp2
          go_roundg (p.length - (j + 1))
          case measure => rw [hn.out]; omega
          case rel => exact ⟨j + 1, by omega, rfl, by go_num, hres2.out, hg.out.trans (grownBy_below n1.below (Nat.le_refl _) _), own_below ho.out n1.below (Nat.le_refl _), by have := n1.size; omega, hblk.below n1.below hsz⟩
      · rcases hcv : who.contains (q : Int) with _ | _
        · rcases hhv : Msk.holdsB f a b with _ | _
          · exfalso; exact hsk (.inr hhv)
          · have hpk := Lib.hid (show p.findSome? (pick G (freeAt ms a b) who) = (G (q : Int)).or ((p.drop (j + 1)).findSome? (pick G (freeAt ms a b) who)) by
              rw [← hres.out, hst.out, pick, hfr.out, if_neg hsk])
            rw [hcv] at hcon
            rw [hhv] at hhol
            replace hcon := Lib.hid hcon
            replace hhol := Lib.hid hhol
            clear hsk hcv hhv hres hst hfr
            have hc1 := ih.out (q : Int) hrp
            clear hrp hr1
            obtain ⟨i0, hi, hz0, hz1, hz2⟩ := info_parts Sl.info_int
            go_wp2
            refine wp_region_below (wr.heap.size) _ (Below.refl _ _) (by kernel_rfl) (by kernel_rfl) ?_
            repeat (go_big_quiet_step ((first | (go_at_call 43; exact quiet_same (hcon.out _ (After.below _))) | (go_at_call 39; exact quiet_below (Nat.le_refl _) (hhol.out _)))))
            refine wpQuiet_nil ?_
            rintro _ ⟨n1, rfl⟩
            have hgq := hg.out.trans (grownBy_below n1.below (Nat.le_refl _) (Value.slice A2 who.length cap2).ownBlock)
            have hoq := own_below ho.out n1.below (Nat.le_refl _)
            have hsq : w.heap.size < n1.w.heap.size := by have := n1.size; omega
            have hbq := hblk.below n1.below hsz
            go_wp2
            generalize n1.w = wq at hgq hoq hsq hbq ⊢
            have hoa := Lib.hid (show (wq.drew.alloc (.cells #[.int .i64 (q : Int)] 3)).ownsRow base 3 1 (.slice A2 who.length cap2) who.length (who.map (Value.int .i64)) from World.ownsRow.alloc (w := wq.drew) hoq _)
            have hna := Lib.hid (cell_one_new wq.drew (.int .i64 (q : Int)) 3)
            have hna1 := Lib.hid (show ∀ u ∈ [Value.int .i64 (q : Int)], u.oneCell' = true from fun u hu => by rw [List.mem_singleton.1 hu]; rfl)
            have hga := Lib.hid (hgq.trans (show wq.grownBy (wq.drew.alloc (.cells #[.int .i64 (q : Int)] 3)) (Value.slice A2 who.length cap2).ownBlock from ⟨rfl, rfl, rfl, by simp, fun k hk _ => heap_alloc_old wq.drew _ hk⟩))
            have hba := Lib.hid (show Blk (wq.drew.alloc (.cells #[.int .i64 (q : Int)] 3)) w.heap.size 61 #[.int .i64 a, .int .i64 b] from Blk.alloc (w := wq.drew) hbq _)
            have hne := Lib.hid (show some w.heap.size ≠ (Value.slice A2 who.length cap2).ownBlock from fun e => by have := hown.out.lt _ e.symm; omega)
            have hsa : w.heap.size < (wq.drew.alloc (.cells #[.int .i64 (q : Int)] 3)).heap.size := hba.out.lt
            have hsb := Lib.hid (Nat.le_of_lt (Nat.lt_of_le_of_lt hbase hsa))
            replace hsa := Lib.hid hsa
            have l0 : wq.cell? ⟨w.heap.size, 0, none⟩ = some (.int .i64 a) := hbq.cell 0
            have l1 : wq.cell? ⟨w.heap.size, 1, none⟩ = some (.int .i64 b) := hbq.cell 1
            clear hcon hhol d4 k0 k1 hg ho n1
            replace hgq := Lib.hid hgq
            replace hoq := Lib.hid hoq
            rcases hG : G (q : Int) with _ | l
            · have hres2 := Lib.hid (show (p.drop (j + 1)).findSome? (pick G (freeAt ms a b) who) = p.findSome? (pick G (freeAt ms a b) who) by rw [hpk.out, hG]; rfl)
              have hc2 := Lib.hid (show ∀ W gg cc, Below base w W → base ≤ W.heap.size → W.ownsRow base 3 1 (.slice (some ⟨gg, 0, none⟩) (who.length + 1) cc) (who.length + 1) (who.map (Value.int .i64) ++ [.int .i64 (q : Int)]) →
                  Calls Try.prog 34 #[.slice (some ⟨b1, o1, none⟩) roles.length cap, .slice (some ⟨b4, o4, none⟩) ms.length cap4, .agg #[.int .i64 a, .int .i64 b], .slice (some ⟨gg, 0, none⟩) (who.length + 1) cc] W fun e w2 =>
                    e = .returned (.tuple #[.slice none 0 0, .bool false]) ∧ W.grownBy w2 (some gg) ∧ w2.ownsRow base 3 1 (.slice (some ⟨gg, 0, none⟩) (who.length + 1) cc) (who.length + 1) (who.map (Value.int .i64) ++ [.int .i64 (q : Int)])
                from fun W gg cc h1 h2 h3 => (hc1 W gg cc h1 h2 h3).mono fun e w2 ⟨h4, h5, h6⟩ => by
                  rcases h6 with ⟨_, _, h7, _⟩ | ⟨_, h7⟩
                  · rw [hG] at h7; cases h7
                  · exact ⟨h7, h4, h5⟩)
              clear hc1 hG hpk
              go_region_law (first
                | (refine step_append_back _ rfl (.tmp 47) (.tmp 49) 38 rfl base 3 i0 _ 8 Try.underlying38 hi hz0 hz1 hz2 rfl (.slice A2 who.length cap2) who.length (who.map (Value.int .i64)) (by simp [Act.eval]) hoa.out ⟨wq.heap.size, 0, none⟩ 1 (.int .i64 (q : Int)) (by simp [Act.eval]) hna.out hna1.out (by simp only [maxLen]; omega) (by omega) hsb.out ?_
                   intro gg cc w1 hown1 hgr1 _ _ hback1
                   have m0 : w1.cell? ⟨w.heap.size, 0, none⟩ = some (.int .i64 a) := Blk.cell (w := w1) ((hgr1.block _ hsa.out hne.out).trans hba.out) 0
                   have m1 : w1.cell? ⟨w.heap.size, 1, none⟩ = some (.int .i64 b) := Blk.cell (w := w1) ((hgr1.block _ hsa.out hne.out).trans hba.out) 1
                   have hw1 := Lib.hid (below_own hbase hown.out (hga.out.trans hgr1))
                   have hs1 := Lib.hid (Nat.le_trans hsb.out hgr1.size)
                   replace hown1 := Lib.hid hown1
                   replace hgr1 := Lib.hid hgr1
                   replace hback1 := Lib.hid hback1)
                | (go_simp; refine (hc2.out w1 gg cc hw1.out hs1.out hown1.out).mono ?_; rintro e w2 ⟨rfl, hg2, ho2⟩; have hbk := Lib.hid (hback1.out w2 hg2 ho2); clear hg2 ho2))
              all_goals
                go_wp2
                go_roundg (p.length - (j + 1))
                case measure => rw [hn.out]; omega
                case rel => exact ⟨j + 1, by omega, rfl, by go_num, hres2.out, hga.out.trans hbk.out.1, hbk.out.2, Nat.lt_of_lt_of_le hsa.out hbk.out.1.size, (hbk.out.1.block _ hsa.out hne.out).trans hba.out⟩
            · have hc2 := Lib.hid (show ∀ W gg cc, Below base w W → base ≤ W.heap.size → W.ownsRow base 3 1 (.slice (some ⟨gg, 0, none⟩) (who.length + 1) cc) (who.length + 1) (who.map (Value.int .i64) ++ [.int .i64 (q : Int)]) →
                  Calls Try.prog 34 #[.slice (some ⟨b1, o1, none⟩) roles.length cap, .slice (some ⟨b4, o4, none⟩) ms.length cap4, .agg #[.int .i64 a, .int .i64 b], .slice (some ⟨gg, 0, none⟩) (who.length + 1) cc] W fun e w2 =>
                    ∃ out, e = .returned (.tuple #[out, .bool true]) ∧ w2.ownsRow W.heap.size 3 1 out l.length (l.map (Value.int .i64)) ∧ W.grownBy w2 (some gg) ∧ w2.ownsRow base 3 1 (.slice (some ⟨gg, 0, none⟩) (who.length + 1) cc) (who.length + 1) (who.map (Value.int .i64) ++ [.int .i64 (q : Int)])
                from fun W gg cc h1 h2 h3 => (hc1 W gg cc h1 h2 h3).mono fun e w2 ⟨h4, h5, h6⟩ => by
                  rcases h6 with ⟨out, _, h7, h8, h9⟩ | ⟨h7, _⟩
                  · rw [hG] at h7; cases h7; exact ⟨out, h8, h9, h4, h5⟩
                  · rw [hG] at h7; cases h7)
              replace hG := Lib.hid hG
              clear hc1
              go_region_law (first
                | (refine step_append_back _ rfl (.tmp 47) (.tmp 49) 38 rfl base 3 i0 _ 8 Try.underlying38 hi hz0 hz1 hz2 rfl (.slice A2 who.length cap2) who.length (who.map (Value.int .i64)) (by simp [Act.eval]) hoa.out ⟨wq.heap.size, 0, none⟩ 1 (.int .i64 (q : Int)) (by simp [Act.eval]) hna.out hna1.out (by simp only [maxLen]; omega) (by omega) hsb.out ?_
                   intro gg cc w1 hown1 hgr1 _ _ hback1
                   have m0 : w1.cell? ⟨w.heap.size, 0, none⟩ = some (.int .i64 a) := Blk.cell (w := w1) ((hgr1.block _ hsa.out hne.out).trans hba.out) 0
                   have m1 : w1.cell? ⟨w.heap.size, 1, none⟩ = some (.int .i64 b) := Blk.cell (w := w1) ((hgr1.block _ hsa.out hne.out).trans hba.out) 1
                   have hw1 := Lib.hid (below_own hbase hown.out (hga.out.trans hgr1))
                   have hs1 := Lib.hid (Nat.le_trans hsb.out hgr1.size)
                   replace hown1 := Lib.hid hown1
                   replace hgr1 := Lib.hid hgr1
                   replace hback1 := Lib.hid hback1)
                | (go_simp; refine (hc2.out w1 gg cc hw1.out hs1.out hown1.out).mono ?_; rintro e w2 ⟨out, rfl, hou, hg2, ho2⟩; replace hou := Lib.hid hou; have hbk := Lib.hid (hback1.out w2 hg2 ho2); clear hg2 ho2))
              all_goals
                go_wp2
                go_ret2
                exact ⟨hga.out.trans hbk.out.1, hbk.out.2, .inl ⟨_, l, by rw [hpk.out, hG.out]; rfl, rfl, hou.out.mono (hga.out.trans hgr1.out).size⟩⟩
        · exfalso; exact hsk (.inl hcv)
    · obtain rfl : j = p.length := by omega
      go_wp2
      go_ret2
      exact ⟨hg.out, ho.out, .inr ⟨by rw [← hres.out, List.drop_length]; rfl, rfl⟩⟩

theorem fill_any (rolesV freeV : Value) (roles : List (List Int)) (ms : List (Nat → Nat)) (a b : Int) (base : Nat) (hlen : roles.length ≤ 4) (hpb : ∀ p ∈ roles, ∀ r ∈ p, 0 ≤ r ∧ r < ms.length) :
    ∀ (n : Nat) (who : List Int) (v : Value) (w : World), n + who.length = roles.length → Sl.Ints2V w base rolesV roles → Sl.MasksV w base freeV ms → base ≤ w.heap.size → w.ownsRow base 3 1 v who.length (who.map (Value.int .i64)) →
      Calls Try.prog 34 #[rolesV, freeV, .agg #[.int .i64 a, .int .i64 b], v] w (LongPost base v who.length (who.map (Value.int .i64)) (fillL (freeAt ms a b) (roles.drop who.length) who) w)
  | 0, who, v, w, hn, hr, _, _, ho => by
    rw [List.drop_eq_nil_of_le (by omega)]
    exact fill_end rolesV freeV v roles a b who w base hr (by omega) hlen ho
  | n + 1, who, v, w, hn, hr, hm, hb, ho => by
    have hlt : who.length < roles.length := by omega
    rw [List.drop_eq_getElem_cons hlt]
    exact fill_step rolesV freeV v roles ms a b who roles[who.length] w base (fun r => fillL (freeAt ms a b) (roles.drop (who.length + 1)) (who ++ [r])) hr hm (List.getElem?_eq_getElem hlt) hlen hb ho
      (hpb _ (List.getElem_mem hlt)) fun r _ W g cap h1 h2 h3 => by
        have h := fill_any rolesV freeV roles ms a b base hlen hpb n (who ++ [r]) (.slice (some ⟨g, 0, none⟩) (who.length + 1) cap) W (by simp; omega) (hr.below h1 (Nat.le_refl _) (Nat.le_refl _)) (hm.below h1 (Nat.le_refl _) (Nat.le_refl _)) h2 (by simpa using h3)
        simpa using h

end Mat
end Go.Proofs.Ytbaomgdkoglebaa
