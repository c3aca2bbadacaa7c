/- The walk of vm.stack. -/
import Derived.Test.YtbadplbdgpbdaaaDoorVmS
import Derived.Test.YtbadplbdgpbdaaaDoorVmQ
namespace Go.Proofs.YtbadplbdgpbdaaaDoor
open Go.RowKit Go.Maps Go.ChangeShapes
namespace Vm
open Msk Sl

theorem stackGo_at {l : List Code} {xs : List Ins} {i : Nat} {x : Ins} {F : Int → Option Int} {c : Nat} {hi st : Int} (h : xs[i]? = some x) : stackGo l (xs.drop i) i F c hi st =
    match F i with
    | none => (0, 0, false)
    | some h =>
      if h < takesI x.op then (0, 0, false) else
      match (if guardI x then meetF F c x.to (h + 1) else some (F, c)) with
      | none => (0, 0, false)
      | some (F1, c1) =>
        match meetF F1 c1 (i + 1) (if guardI x then h else h - takesI x.op + 1) with
        | none => (0, 0, false)
        | some (F2, c2) => stackGo l (xs.drop (i + 1)) (i + 1) F2 c2 (max (max hi (h - takesI x.op + upI l x)) h) (st + costI l x) := by
  obtain ⟨hi, rfl⟩ := List.getElem?_eq_some_iff.1 h
  rw [List.drop_eq_getElem_cons hi, stackGo]
  rfl

@[go_sem high] theorem run_max3 {P : Program} (w : World) (ts : Array TypeId) (t : TypeId) (x y z : Int) :
    (Builtin.max_ ts t #[.int .i64 x, .int .i64 y, .int .i64 z]).run P w = .ok (.int .i64 (max (max x y) z)) w := by
  have e : ∀ x y : Int, (if y > x then y else x) = max x y := fun x y => by
    rw [Int.max_def]
    split <;> split <;> omega
  have e' : ∀ x y : Int, (if x < y then y else x) = max x y := e
  simp [Builtin.max_, Builtin.max2, e']

theorem meetF_bound {F F' : Int → Option Int} {c c' : Nat} {i h lo hi : Int} (e : meetF F c i h = some (F', c')) (hb : ∀ j v, F j = some v → lo ≤ v ∧ v ≤ hi) (h1 : lo ≤ h) (h2 : h ≤ hi) : ∀ j v, F' j = some v → lo ≤ v ∧ v ≤ hi := by
  have key : F' = putF F i h := by
    unfold meetF at e
    split at e
    · split at e
      · cases e; rfl
      · cases e
    · cases e; rfl
  subst key
  intro j v hv
  unfold putF at hv
  split at hv
  · cases hv; exact ⟨h1, h2⟩
  · exact hb j v hv
theorem meet_no (F : Int → Option Int) (c : Nat) (i h : Int) (w : World) (mb cb n : Nat) (hm : meetF F c i h = none) (hM : Mp.Is w Tryd.prog 3 mb n c (litF F)) (hcb : w.cell? ⟨cb, 0, none⟩ = some (.map (some mb))) (hn : n < 1000000)
    (h1 : -9223372036854775808 ≤ i) (h2 : i ≤ 9223372036854775807) :
    Calls Tryd.prog 54 #[.int .i64 i, .int .i64 h, .pointer (some ⟨cb, 0, none⟩)] w fun e w' => e = .returned (.bool false) ∧ w = w' :=
  (meet_any F c i h w mb cb n hM hcb hn h1 h2).mono fun e w' hx => by
    rcases hx with ⟨_, h3, h4⟩ | ⟨F', c', h3, _⟩
    · exact ⟨h3, h4⟩
    · rw [hm] at h3; cases h3
theorem meet_yes (F F' : Int → Option Int) (c c' : Nat) (i h : Int) (w : World) (mb cb n : Nat) (hm : meetF F c i h = some (F', c')) (hM : Mp.Is w Tryd.prog 3 mb n c (litF F)) (hcb : w.cell? ⟨cb, 0, none⟩ = some (.map (some mb))) (hn : n < 1000000)
    (h1 : -9223372036854775808 ≤ i) (h2 : i ≤ 9223372036854775807) :
    Calls Tryd.prog 54 #[.int .i64 i, .int .i64 h, .pointer (some ⟨cb, 0, none⟩)] w fun e w' => e = .returned (.bool true) ∧ Mp.Is w' Tryd.prog 3 mb (n + 1) c' (litF F') ∧ w.grownBy w' (some mb) :=
  (meet_any F c i h w mb cb n hM hcb hn h1 h2).mono fun e w' hx => by
    rcases hx with ⟨h3, _⟩ | ⟨F2, c2, h3, h4, h5, h6⟩
    · rw [hm] at h3; cases h3
    · rw [hm] at h3; cases h3; exact ⟨h4, h5, h6⟩

def stackV (x : Int × Int × Bool) : Value := .tuple #[.int .i64 x.1, .int .i64 x.2.1, .bool x.2.2]

set_option maxRecDepth 100000 in
set_option maxHeartbeats 16000000 in
theorem stack_any (codeV : Value) (l : List Code) (w : World) (hl : CodesV w w.heap.size codeV l) (cc : Code) (hR : ∀ c : Code, c ∈ l → 1 ≤ c.high ∧ c.high ≤ 100 ∧ 1 ≤ c.steps ∧ c.steps ≤ 20000)
    (hins : ∀ k x, cc.ins[k]? = some x → insErr l.length cc.ins.length k x = 0) (hlen : cc.ins.length ≤ 2000) (pb po : Nat) (hp : CodeAt w w.heap.size pb po cc) (hpb : pb < w.heap.size) :
    Calls Tryd.prog 28 #[codeV, .pointer (some ⟨pb, po, none⟩)] w fun e w' => e = .returned (stackV (stackL l cc)) ∧ Below w.heap.size w w' := by
  obtain ⟨A, cap, rfl, hlenl, hc⟩ := hl
  obtain ⟨⟨u, k0, hI⟩, _, _⟩ := hp
  obtain ⟨A1, cap1, rfl, hlen1, hc1⟩ := hI
  have e0 : (fun _ => none : Lit → Option Value) = litF (fun _ => none) := by funext x; unfold litF; split <;> rfl
  have hM0 := Mp.Is.made w Tryd.prog 3
  rw [e0] at hM0
  obtain ⟨ws, hrun, hI0, hg0⟩ := store_int (i := 0) (h := 0) hM0 (by omega) (by omega) (by omega)
  have hmm := @run_makeMap Tryd.prog
  have zs := hg0.size
  simp at zs
  have hbs : Below w.heap.size w ws := below_row ((Below.refl w.heap.size w).alloc (Nat.le_refl _) (.map #[] 0)) hg0 (Nat.le_refl _) (by simp)
  replace hc := Lib.hid hc
  replace hc1 := Lib.hid hc1
  replace hI0 := Lib.hid hI0
  replace hR := Lib.hid hR
  replace hins := Lib.hid hins
  replace hlen := Lib.hid hlen
  replace hg0 := Lib.hid hg0
  have d0 : ws.cell? ⟨pb, po, none⟩ = some (.slice A1 cc.ins.length cap1) := (hbs.cell (p := ⟨pb, po, none⟩) hpb).trans k0
  have zp : pb < ws.heap.size := by omega
  have k00 := Lib.hid k0
  clear hM0
  go_enter Tryd.func28, Tryd.ntmps28
  go_wp2
  clear hrun hmm d0 k0
  go_loopg [4, 5, 23] cc.ins.length (fun n hi st k wr => ∃ (i : Nat) (F : Int → Option Int) (c : Nat) (hiv stv : Int), hi = .int .i64 hiv ∧ st = .int .i64 stv ∧ k = .int .i64 i ∧ n = cc.ins.length - i ∧ i ≤ cc.ins.length ∧ Hid (stackGo l (cc.ins.drop i) i F c hiv stv = stackL l cc) ∧
    Hid (∀ j h, F j = some h → 0 ≤ h ∧ h ≤ i + 1) ∧ (0 ≤ hiv ∧ hiv ≤ 5000) ∧ (0 ≤ stv ∧ stv ≤ i * 20001) ∧ Below w.heap.size w wr ∧ Blk wr ws.heap.size 102 #[.map (some w.heap.size)] ∧ Hid (Mp.Is wr Tryd.prog 3 w.heap.size (2 * i + 1) c (litF F)))
  case atStart =>
    refine ⟨0, putF (fun _ => none) 0 0, 1, 0, 0, rfl, rfl, rfl, by omega, by omega, Lib.hid rfl, Lib.hid fun j h hj => ?_, by omega, by omega, hbs.alloc (by omega) _, Blk.new _ _ _, Lib.hid (hI0.out.alloc _)⟩
    unfold putF at hj
    split at hj
    · cases hj; omega
    · cases hj
  case round =>
    clear hbs hI0
    obtain ⟨i, F, c, hiv, stv, rfl, rfl, rfl, hq, hi, hgo, hFb, ⟨hh1, hh2⟩, ⟨hs1, hs2⟩, hbw, hB, hM⟩ := hrel
    replace hq := Lib.hid hq
    have zb := hbw.size
    have zc := hB.lt
    have hi2 : i ≤ 2000 := by have := hlen.out; omega
    have hst2 : stv ≤ 40002000 := by omega
    replace hs2 := Lib.hid hs2
    by_cases hlt : i < cc.ins.length
    · obtain ⟨x, hx⟩ : ∃ x, cc.ins[i]? = some x := ⟨_, List.getElem?_eq_getElem hlt⟩
      obtain ⟨b1, o1, rfl, hb1, hat⟩ := hc1.out i x hx
      have hst := stackGo_at (l := l) (F := F) (c := c) (hi := hiv) (st := stv) hx
      rw [hgo.out] at hst
      have hk := ins_kinds (hins.out i x hx)
      obtain ⟨x0, x1, x2, x3, u4, x4, x5⟩ := hat.below hbw hb1 (Nat.le_refl _) (Nat.le_refl _)
      obtain ⟨A4, cap4, rfl, _⟩ := x5
      have z1 : b1 < wr.heap.size := by omega
      clear hx hat
      obtain ⟨op, a, bb, to, sp⟩ := x
      simp only at x0 x1 x2 x3 x4 hst hk
      have hM1 := hM.out.alloc (.cells #[.int .i64 op, .int .i64 a, .int .i64 bb, .int .i64 to, .slice A4 sp.length cap4] 55)
      have hlook := look_int hM1 (i := (i : Int)) (by omega) (by omega)
      have hB1 := hB.alloc (.cells #[.int .i64 op, .int .i64 a, .int .i64 bb, .int .i64 to, .slice A4 sp.length cap4] 55)
      have hbw1 : Below w.heap.size w (wr.alloc (.cells #[.int .i64 op, .int .i64 a, .int .i64 bb, .int .i64 to, .slice A4 sp.length cap4] 55)) := hbw.alloc zb _
      have hcb := hB1.cell 0
      have hTk := Lib.hid (fun W => takes_any op W)
      have htk : takesI op = 0 ∨ takesI op = 1 ∨ takesI op = 2 := by unfold takesI; split; · exact .inr (.inr rfl)
                                                                     split; · exact .inr (.inl rfl)
                                                                     exact .inl rfl
      obtain ⟨tk, htk2⟩ : ∃ tk, takesI op = tk := ⟨_, rfl⟩
      rw [htk2] at htk hst hTk
      have htk3 : 0 ≤ tk ∧ tk ≤ 2 := by omega
      clear htk htk2
      obtain ⟨htk3, htk4⟩ := htk3
      cases hF : F i with
      | none =>
        rw [hF] at hst hlook
        simp only [Option.getD_none, Option.isSome_none] at hlook
        have hres := Lib.hid (show stackL l cc = (0, 0, false) from hst)
        clear hst hk
        go_wp2
        refine bodyPost_ret (v := stackV (0, 0, false)) (by simp [results, Tryd.results28, go_sem, stackV]) rfl ⟨by rw [hres.out], hbw1⟩
      | some h =>
        rw [hF] at hst hlook
        simp only [Option.getD_some, Option.isSome_some] at hlook hst
        obtain ⟨hb0, hb2⟩ := hFb.out _ _ hF
        rcases dec (h < tk) with ⟨q1, hx⟩ | ⟨q1, hx⟩
        · rw [if_pos hx] at hst
          have hres := Lib.hid (show stackL l cc = (0, 0, false) from hst)
          clear hst hk hx
          go_wp2_with (go_at_call 55; refine (hTk.out _).mono ?_; rintro e w4 ⟨rfl, rfl⟩)
          refine bodyPost_ret (v := stackV (0, 0, false)) (by simp [results, Tryd.results28, go_sem, stackV]) rfl ⟨by rw [hres.out], hbw1⟩
        · rw [if_neg hx] at hst
          have hth : tk ≤ h := by omega
          clear hx hF
          have hk3 : (op = 8 ∧ 0 ≤ a ∧ a < l.length) ∨ ((op = 6 ∨ op = 7) ∧ (i : Int) + 1 < to ∧ to ≤ cc.ins.length) ∨ (op ≠ 6 ∧ op ≠ 7 ∧ op ≠ 8) := by omega
          clear hk
          rcases hk3 with ⟨rfl, ha1, ha2⟩ | ⟨h67, ht1, ht2⟩ | ⟨n6, n7, n8⟩
          · obtain ⟨an, rfl⟩ := Int.eq_ofNat_of_zero_le ha1
            have hal : an < l.length := by omega
            obtain ⟨ca, hca⟩ : ∃ ca, l[an]? = some ca := ⟨_, List.getElem?_eq_getElem hal⟩
            obtain ⟨b2, o2, rfl, hb2', _, y1, y2⟩ := hc.out an ca hca
            have y1' : wr.cell? ⟨b2, o2 + an * 3 + 1, none⟩ = some (.int .i64 ca.high) := (hbw.cell (p := ⟨b2, _, none⟩) hb2').trans y1
            have y2' : wr.cell? ⟨b2, o2 + an * 3 + 2, none⟩ = some (.int .i64 ca.steps) := (hbw.cell (p := ⟨b2, _, none⟩) hb2').trans y2
            have z2 : b2 < wr.heap.size := by omega
            obtain ⟨hc5, hc6, hc7, hc8⟩ := hR.out ca (List.mem_of_getElem? hca)
            have hup : upI l ⟨8, (an : Nat), bb, to, sp⟩ = ca.high := by unfold upI; rw [if_pos rfl]; simp only [Int.toNat_natCast]; rw [hca]; rfl
            have hco : costI l ⟨8, (an : Nat), bb, to, sp⟩ = ca.steps + 1 := by unfold costI; rw [if_pos rfl]; simp only [Int.toNat_natCast]; rw [hca]; rfl
            have hng : ¬ guardI ⟨8, (an : Nat), bb, to, sp⟩ := by unfold guardI; simp
            rw [if_neg hng, if_neg hng, hup, hco] at hst
            clear hup hco hng hca y1 y2
            replace hst : stackL l cc = match meetF F c ((i : Int) + 1) (h - tk + 1) with | none => (0, 0, false) | some (F2, c2) => stackGo l (cc.ins.drop (i + 1)) (i + 1) F2 c2 (max (max hiv (h - tk + ca.high)) h) (stv + (ca.steps + 1)) := hst
            cases hm : meetF F c ((i : Int) + 1) (h - tk + 1) with
            | none =>
              rw [hm] at hst
              have hres := Lib.hid (show stackL l cc = (0, 0, false) from hst)
              have hme := Lib.hid (meet_no F c ((i : Int) + 1) (h - tk + 1) _ _ _ _ hm hM1 hcb (by omega) (by omega) (by omega))
              clear hst hm
              go_wp2_with (first | (go_at_call 55; refine (hTk.out _).mono ?_; rintro e w4 ⟨rfl, rfl⟩) | (go_at_call 54; (with_reducible refine hme.out.mono ?_); rintro e w5 ⟨rfl, rfl⟩))
              refine bodyPost_ret (v := stackV (0, 0, false)) (by simp [results, Tryd.results28, go_sem, stackV]) rfl ⟨by rw [hres.out], hbw1⟩
            | some p =>
              obtain ⟨F2, c2⟩ := p
              rw [hm] at hst
              have hFb2 := Lib.hid (meetF_bound hm (fun j v hj => (by have := hFb.out j v hj; omega : 0 ≤ v ∧ v ≤ (i : Int) + 2)) (by omega) (by omega))
              have hme := Lib.hid (meet_yes F F2 c c2 ((i : Int) + 1) (h - tk + 1) _ _ _ _ hm hM1 hcb (by omega) (by omega) (by omega))
              replace hst := Lib.hid hst
              clear hm
              go_wp2_with (first | (go_at_call 55; refine (hTk.out _).mono ?_; rintro e w4 ⟨rfl, rfl⟩) | (go_at_call 54; (with_reducible refine hme.out.mono ?_); rintro e w5 ⟨rfl, hI5, hg5⟩))
              go_roundg (cc.ins.length - (i + 1))
              case measure => rw [hq.out]; omega
              case rel =>
                have hs3 := hs2.out
                exact ⟨i + 1, F2, c2, max (max hiv (h - tk + ca.high)) h, stv + (ca.steps + 1), by first | rfl | (congr 1; omega), by first | rfl | (congr 1; omega), by go_num, rfl, by omega, Lib.hid hst.out.symm, Lib.hid (fun j v hj => by have := hFb2.out j v hj; omega), by omega, by omega, below_row hbw1 hg5 (Nat.le_refl _) (by simp; omega), blk_row hB1 hg5 (by omega), Lib.hid (hI5.mono (by omega))⟩
          · obtain ⟨hto1, hto2⟩ : -9223372036854775808 ≤ to ∧ to ≤ 9223372036854775807 := by have := hlen.out; omega
            have hup : upI l ⟨op, a, bb, to, sp⟩ = 1 := by unfold upI; rw [if_neg (by simp only; omega)]
            have hco : costI l ⟨op, a, bb, to, sp⟩ = 1 := by unfold costI; rw [if_neg (by simp only; omega)]
            have hng : guardI ⟨op, a, bb, to, sp⟩ := by unfold guardI; simp only; omega
            rw [if_pos hng, if_pos hng, hup, hco] at hst
            replace hst : stackL l cc = match meetF F c to (h + 1) with | none => (0, 0, false) | some (F1, c1) => match meetF F1 c1 ((i : Int) + 1) h with | none => (0, 0, false) | some (F2, c2) => stackGo l (cc.ins.drop (i + 1)) (i + 1) F2 c2 (max (max hiv (h - tk + 1)) h) (stv + 1) := hst
            clear hup hco hng
            cases hm0 : meetF F c to (h + 1) with
            | none =>
              rw [hm0] at hst
              have hres := Lib.hid (show stackL l cc = (0, 0, false) from hst)
              have hme := Lib.hid (meet_no F c to (h + 1) _ _ _ _ hm0 hM1 hcb (by omega) hto1 hto2)
              clear hst hm0
              rcases h67 with rfl | rfl
              all_goals
                go_wp2_with (first | (go_at_call 55; refine (hTk.out _).mono ?_; rintro e w4 ⟨rfl, rfl⟩) | (go_at_call 54; (with_reducible refine hme.out.mono ?_); rintro e w5 ⟨rfl, rfl⟩))
                refine bodyPost_ret (v := stackV (0, 0, false)) (by simp [results, Tryd.results28, go_sem, stackV]) rfl ⟨by rw [hres.out], hbw1⟩
            | some p =>
              obtain ⟨F1, c1⟩ := p
              rw [hm0] at hst
              replace hst : stackL l cc = match meetF F1 c1 ((i : Int) + 1) h with | none => (0, 0, false) | some (F2, c2) => stackGo l (cc.ins.drop (i + 1)) (i + 1) F2 c2 (max (max hiv (h - tk + 1)) h) (stv + 1) := hst
              have hFb1 := meetF_bound hm0 (fun j v hj => (by have := hFb.out j v hj; omega : 0 ≤ v ∧ v ≤ (i : Int) + 2)) (by omega) (by omega)
              have hme0 := Lib.hid (meet_yes F F1 c c1 to (h + 1) _ _ _ _ hm0 hM1 hcb (by omega) hto1 hto2)
              clear hm0
              cases hm : meetF F1 c1 ((i : Int) + 1) h with
              | none =>
                rw [hm] at hst
                have hres := Lib.hid (show stackL l cc = (0, 0, false) from hst)
                have hme := Lib.hid (fun (W : World) (hI : Mp.Is W Tryd.prog 3 w.heap.size (2 * i + 1 + 1) c1 (litF F1)) (hcb : W.cell? ⟨ws.heap.size, 0, none⟩ = some (.map (some w.heap.size))) => meet_no F1 c1 ((i : Int) + 1) h W _ _ _ hm hI hcb (by omega) (by omega) (by omega))
                clear hst hm
                rcases h67 with rfl | rfl
                all_goals
                  go_wp2_with (first | (go_at_call 55; refine (hTk.out _).mono ?_; rintro e w4 ⟨rfl, rfl⟩) | (go_at_call 54; (with_reducible refine hme0.out.mono ?_); rintro e w5 ⟨rfl, hI5, hg5⟩; have hB5 := blk_row hB1 hg5 (by omega); have hcb5 : w5.cell? ⟨ws.heap.size, 0, none⟩ = some (.map (some w.heap.size)) := hB5.cell 0; replace hI5 := Lib.hid hI5; have hb5 := below_row hbw1 hg5 (Nat.le_refl _) (by simp; omega)) | (go_at_call 54; (with_reducible refine (hme.out _ hI5.out hcb5).mono ?_); rintro e w6 ⟨rfl, rfl⟩))
                  refine bodyPost_ret (v := stackV (0, 0, false)) (by simp [results, Tryd.results28, go_sem, stackV]) rfl ⟨by rw [hres.out], hb5⟩
              | some p =>
                obtain ⟨F2, c2⟩ := p
                rw [hm] at hst
                have hFb2 := Lib.hid (meetF_bound hm hFb1 (by omega) (by omega))
                have hme := Lib.hid (fun (W : World) (hI : Mp.Is W Tryd.prog 3 w.heap.size (2 * i + 1 + 1) c1 (litF F1)) (hcb : W.cell? ⟨ws.heap.size, 0, none⟩ = some (.map (some w.heap.size))) => meet_yes F1 F2 c1 c2 ((i : Int) + 1) h W _ _ _ hm hI hcb (by omega) (by omega) (by omega))
                replace hst := Lib.hid hst
                clear hm
                rcases h67 with rfl | rfl
                all_goals
                  go_wp2_with (first | (go_at_call 55; refine (hTk.out _).mono ?_; rintro e w4 ⟨rfl, rfl⟩) | (go_at_call 54; (with_reducible refine hme0.out.mono ?_); rintro e w5 ⟨rfl, hI5, hg5⟩; have hB5 := blk_row hB1 hg5 (by omega); have hcb5 : w5.cell? ⟨ws.heap.size, 0, none⟩ = some (.map (some w.heap.size)) := hB5.cell 0; replace hI5 := Lib.hid hI5; have hb5 := below_row hbw1 hg5 (Nat.le_refl _) (by simp; omega)) | (go_at_call 54; (with_reducible refine (hme.out _ hI5.out hcb5).mono ?_); rintro e w6 ⟨rfl, hI6, hg6⟩))
                  go_roundg (cc.ins.length - (i + 1))
                  case measure => rw [hq.out]; omega
                  case rel =>
                    have hs3 := hs2.out
                    exact ⟨i + 1, F2, c2, max (max hiv (h - tk + 1)) h, stv + 1, by first | rfl | (congr 1; omega), by first | rfl | (congr 1; omega), by go_num, rfl, by omega, Lib.hid hst.out.symm, Lib.hid (fun j v hj => by have := hFb2.out j v hj; omega), by omega, by omega, below_row hb5 hg6 (Nat.le_refl _) (by have := hg5.size; simp at this; omega), blk_row hB5 hg6 (by omega), Lib.hid (hI6.mono (by omega))⟩
          · have b6 : (op == 6) = false := by simp; omega
            have b7 : (op == 7) = false := by simp; omega
            have b8 : (op == 8) = false := by simp; omega
            have hup : upI l ⟨op, a, bb, to, sp⟩ = 1 := by unfold upI; rw [if_neg (by simp only; omega)]
            have hco : costI l ⟨op, a, bb, to, sp⟩ = 1 := by unfold costI; rw [if_neg (by simp only; omega)]
            have hng : ¬ guardI ⟨op, a, bb, to, sp⟩ := by unfold guardI; simp only; omega
            rw [if_neg hng, if_neg hng, hup, hco] at hst
            clear hup hco hng
            replace hst : stackL l cc = match meetF F c ((i : Int) + 1) (h - tk + 1) with | none => (0, 0, false) | some (F2, c2) => stackGo l (cc.ins.drop (i + 1)) (i + 1) F2 c2 (max (max hiv (h - tk + 1)) h) (stv + 1) := hst
            cases hm : meetF F c ((i : Int) + 1) (h - tk + 1) with
            | none =>
              rw [hm] at hst
              have hres := Lib.hid (show stackL l cc = (0, 0, false) from hst)
              have hme := Lib.hid (meet_no F c ((i : Int) + 1) (h - tk + 1) _ _ _ _ hm hM1 hcb (by omega) (by omega) (by omega))
              clear hst hm
              go_wp2_with (first | (go_at_call 55; refine (hTk.out _).mono ?_; rintro e w4 ⟨rfl, rfl⟩) | (go_at_call 54; (with_reducible refine hme.out.mono ?_); rintro e w5 ⟨rfl, rfl⟩))
              refine bodyPost_ret (v := stackV (0, 0, false)) (by simp [results, Tryd.results28, go_sem, stackV]) rfl ⟨by rw [hres.out], hbw1⟩
            | some p =>
              obtain ⟨F2, c2⟩ := p
              rw [hm] at hst
              have hFb2 := Lib.hid (meetF_bound hm (fun j v hj => (by have := hFb.out j v hj; omega : 0 ≤ v ∧ v ≤ (i : Int) + 2)) (by omega) (by omega))
              have hme := Lib.hid (meet_yes F F2 c c2 ((i : Int) + 1) (h - tk + 1) _ _ _ _ hm hM1 hcb (by omega) (by omega) (by omega))
              replace hst := Lib.hid hst
              clear hm
              go_wp2_with (first | (go_at_call 55; refine (hTk.out _).mono ?_; rintro e w4 ⟨rfl, rfl⟩) | (go_at_call 54; (with_reducible refine hme.out.mono ?_); rintro e w5 ⟨rfl, hI5, hg5⟩))
              go_roundg (cc.ins.length - (i + 1))
              case measure => rw [hq.out]; omega
              case rel =>
                have hs3 := hs2.out
                exact ⟨i + 1, F2, c2, max (max hiv (h - tk + 1)) h, stv + 1, by first | rfl | (congr 1; omega), by first | rfl | (congr 1; omega), by go_num, rfl, by omega, Lib.hid hst.out.symm, Lib.hid (fun j v hj => by have := hFb2.out j v hj; omega), by omega, by omega, below_row hbw1 hg5 (Nat.le_refl _) (by simp; omega), blk_row hB1 hg5 (by omega), Lib.hid (hI5.mono (by omega))⟩
    · obtain rfl : i = cc.ins.length := by omega
      have hgo2 := hgo.out
      rw [List.drop_length, stackGo] at hgo2
      have hlk : ∀ m : After wr.heap.size wr, (Instr.lookup 102 (.map (some w.heap.size)) (.int .i64 (cc.ins.length : Int)) false).run Tryd.prog m.w = .ok (.int .i64 ((F (cc.ins.length : Int)).getD 0)) m.w := fun m => look_int0 (hM.out.below m.below (by omega)) (by omega) (by omega)
      have hml : ∀ m : After wr.heap.size wr, (Builtin.len_ #[102] 3 #[.map (some w.heap.size)]).run Tryd.prog m.w = .ok (.int .i64 c) m.w := fun m => (hM.out.below m.below (by omega)).len Tryd.underlying102 3
      have hcb : wr.cell? ⟨ws.heap.size, 0, none⟩ = some (.map (some w.heap.size)) := hB.cell 0
      have dp : wr.cell? ⟨pb, po, none⟩ = some (.slice A1 cc.ins.length cap1) := (hbw.cell (p := ⟨pb, po, none⟩) hpb).trans k00.out
      have zpb : pb < wr.heap.size := by omega
      cases hg : ((F (cc.ins.length : Int)).getD 0 == 1) with
      | true =>
        have hres := Lib.hid (show stackL l cc = (hiv, stv, ((c : Int) == (cc.ins.length : Int) + 1)) from by
          rw [← hgo2]
          have e1 : decide ((F (cc.ins.length : Int)).getD 0 = 1) = true := by simpa using hg
          have e2 : decide (c = cc.ins.length + 1) = ((c : Int) == (cc.ins.length : Int) + 1) := by
            rw [Bool.eq_iff_iff]; simp only [decide_eq_true_eq, beq_iff_eq]; omega
          rw [e1, e2, Bool.true_and])
        clear hgo2
        go_wp2
        refine wp_region_below (wr.heap.size) _ (Below.refl _ _) (by kernel_rfl) (by kernel_rfl) ?_
        repeat (go_big_quiet_step ((fail)))
        refine wpQuiet_nil ?_
        rintro _ ⟨n9, rfl⟩
        go_wp2
        refine bodyPost_ret (v := stackV (hiv, stv, ((c : Int) == (cc.ins.length : Int) + 1))) (by simp [results, Tryd.results28, go_sem, stackV]) rfl ⟨by rw [hres.out], (by repeat (first | exact Below.refl _ _ | assumption | refine Below.n _ ?_ (by first | omega | (simp; done) | (simp; omega)) | refine Below.alloc ?_ (by first | omega | (simp; done) | (simp; omega)) _ | refine Below.setCell ?_ (by first | omega | (simp; done) | (simp; omega)) _ | refine Below.drew ?_ | refine Below.setRow ?_ (by first | omega | (simp; done) | (simp; omega)) _ | refine Below.drewN ?_ _))⟩
      | false =>
        have hres := Lib.hid (show stackL l cc = (hiv, stv, false) from by
          rw [← hgo2]
          have e1 : decide ((F (cc.ins.length : Int)).getD 0 = 1) = false := by simpa using hg
          rw [e1, Bool.false_and])
        clear hgo2
        go_wp2
        refine wp_region_below (wr.heap.size) _ (Below.refl _ _) (by kernel_rfl) (by kernel_rfl) ?_
        repeat (go_big_quiet_step ((fail)))
        refine wpQuiet_nil ?_
        rintro _ ⟨n9, rfl⟩
        go_wp2
        refine bodyPost_ret (v := stackV (hiv, stv, false)) (by simp [results, Tryd.results28, go_sem, stackV]) rfl ⟨by rw [hres.out], (by repeat (first | exact Below.refl _ _ | assumption | refine Below.n _ ?_ (by first | omega | (simp; done) | (simp; omega)) | refine Below.alloc ?_ (by first | omega | (simp; done) | (simp; omega)) _ | refine Below.setCell ?_ (by first | omega | (simp; done) | (simp; omega)) _ | refine Below.drew ?_ | refine Below.setRow ?_ (by first | omega | (simp; done) | (simp; omega)) _ | refine Below.drewN ?_ _))⟩

end Vm
end Go.Proofs.YtbadplbdgpbdaaaDoor
