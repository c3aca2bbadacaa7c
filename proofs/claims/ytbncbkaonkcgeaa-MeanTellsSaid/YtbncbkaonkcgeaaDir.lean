/- The names that a rule speaks of: check.names. Where a rule of a name is: check.Find. Which rules a rule speaks of: check.direct. -/
import Derived.Test.YtbncbkaonkcgeaaRulM
import Derived.Test.YtbncbkaonkcgeaaApp
import Derived.Outline
import Derived.Laws.StructEq
import Derived.Test.YtbncbkaonkcgeaaRowI
namespace Go.Proofs.Ytbncbkaonkcgeaa
open Go.RowKit
namespace Ru
open Sl (strV Reads)

theorem el_str : El Try.prog 130 9 1 16 := El.mk' Try.underlying130 (by kernel_rfl) (by decide)

mutual
theorem names_len : ∀ (e : Expr), (namesE e).length ≤ nodesE e
  | .mk k a b name kids => by
    rw [namesE, nodesE]
    split
    · simp
    · have := namesL_len kids; omega
theorem namesL_len : ∀ (l : List Expr), (namesL l).length ≤ nodesL l
  | [] => by rw [namesL, nodesL]; exact Nat.le_refl _
  | e :: l => by
    have h1 := names_len e
    have h2 := namesL_len l
    rw [namesL, nodesL, List.length_append]
    omega
end
theorem namesL_room : ∀ {l : List Expr} {i : Nat} {e : Expr}, l[i]? = some e → (namesL (l.take i)).length + nodesE e ≤ nodesL l
  | [], _, _, h => by simp at h
  | x :: l, 0, e, h => by
    simp at h
    subst h
    rw [List.take_zero, namesL, nodesL]
    simp
  | x :: l, i + 1, e, h => by
    have := namesL_room (l := l) (i := i) (e := e) (by simpa using h)
    have h1 := names_len x
    rw [List.take_succ_cons, namesL, nodesL, List.length_append]
    omega

set_option maxRecDepth 100000 in
set_option maxHeartbeats 4000000 in
theorem names_any : ∀ (N : Nat) (e : Expr) (w : World) (gs base b o : Nat) (v : Value) (l : List (List UInt8)), nodesE e ≤ N → ExprAt w gs b o e → b < gs → gs ≤ base → base ≤ w.heap.size → l.length + nodesE e ≤ 1000 → w.ownsRow base 9 1 v l.length (l.map strV) →
    Calls Try.prog 98 #[.pointer (some ⟨b, o, none⟩), v] w fun r w' => ∃ v', r = .returned v' ∧ w'.ownsRow base 9 1 v' (l ++ namesE e).length ((l ++ namesE e).map strV) ∧ Below base w w' := by
  intro N
  induction N with
  | zero => intro e w gs base b o v l hN; have := nodesE_pos e; omega
  | succ N ih =>
    intro e w gs base b o v l hN he hb hgb hbw hl ho
    obtain ⟨k0, k1, k2, k3, hnl, A, cap, k4, hkl, hkv⟩ := he.out
    have hnod : nodesL e.kids ≤ N ∧ l.length + nodesL e.kids + 1 ≤ 1000 := by cases e; rw [nodesE] at hN hl; simp only [Expr.kids]; omega
    obtain ⟨k, x, y, nm, kids⟩ := e
    simp only [Expr.kind, Expr.a, Expr.b, Expr.name, Expr.kids] at k0 k1 k2 k3 k4 hnl hkl hkv hnod
    have hnames : namesE (.mk k x y nm kids) = if k = 10 then [nm] else namesL kids := by rw [namesE]
    have zb : b < w.heap.size := by omega
    clear he hN hl k1 k2
    obtain ⟨A0, cap0, hv⟩ := own_slice ho
    replace ho := Lib.hid ho
    replace ih := Lib.hid ih
    by_cases hk : k = 10
    · subst hk
      rw [if_pos rfl] at hnames
      replace hnames := Lib.hid hnames
      have hnew := Lib.hid (show ∀ u ∈ (#[strV nm] : Array Value).toList, u.oneCell' = true from fun u hu => by simp at hu; subst hu; rfl)
      clear hv
      go_enter Try.func98, Try.ntmps98
      go_wp2_with (at_builtin; refine wpList_append_lit el_str rfl (.tmp 11) (.tmp 16) rfl base v l.length (l.map strV) ho.out #[strV nm] 9 rfl rfl rfl hnew.out (by simp only [maxLen]; omega) (by omega) hbw ?_; intro v' w5 hown5 hb5 hs5)
      go_ret
      refine ⟨_, rfl, ?_, hb5⟩
      rw [hnames.out]
      exact hown5
    · rw [if_neg hk] at hnames
      have gk : (k == 10) = false := by simpa using hk
      clear hk
      replace hnames := Lib.hid hnames
      replace hkv := Lib.hid hkv
      have k4' := Lib.hid k4
      go_enter Try.func98, Try.ntmps98
      go_wp2
      clear k4 k0 k3 gk hv
      go_loopg [1, 23] kids.length (fun m vv kv wr => ∃ j : Nat, j ≤ kids.length ∧ m = kids.length - j ∧ kv = .int .i64 j ∧ Hid (wr.ownsRow base 9 1 vv (l ++ namesL (kids.take j)).length ((l ++ namesL (kids.take j)).map strV)) ∧ Below base w wr)
      case atStart => exact ⟨0, by omega, rfl, rfl, by rw [List.take_zero, namesL, List.append_nil]; exact ho, Below.refl _ _⟩
      case round =>
        obtain ⟨j, hj, hm, rfl, hor, hbr⟩ := hrel
        replace hm := Lib.hid hm
        have zr := hbr.size
        have c4 : wr.cell? ⟨b, o + 4, none⟩ = some (.slice A kids.length cap) := (hbr.cell (p := ⟨b, _, none⟩) (show b < base by omega)).trans k4'.out
        by_cases hlt : j < kids.length
        · obtain ⟨e1, hx⟩ : ∃ d, kids[j]? = some d := ⟨_, List.getElem?_eq_getElem hlt⟩
          obtain ⟨kb, ko, rfl, hkb, hke⟩ := hkv.out.at' hx
          have hroom := namesL_room hx
          have htake := Lib.hid (namesL_take hx)
          have hcall := Lib.hid (ih.out e1 wr gs base kb (ko + j * 5) _ (l ++ namesL (kids.take j)) (by have := nodesE_kid hx; omega) (hke.below hbr (by omega) (Nat.le_refl _) (by omega)) hkb hgb (by omega) (by rw [List.length_append]; omega) hor.out)
          clear hx hke hroom
          go_wp2_with (go_at_call 98; refine hcall.out.mono ?_; rintro e w5 ⟨v5, rfl, ho5, hb5⟩)
          go_roundg (kids.length - (j + 1))
          case measure => rw [hm.out]; omega
          case rel => exact ⟨j + 1, by omega, rfl, by go_num, by rw [htake.out, ← List.append_assoc]; exact ho5, hbr.trans hb5⟩
        · obtain rfl : j = kids.length := by omega
          go_wp2
          go_ret
          exact ⟨_, rfl, by rw [hnames.out]; simpa using hor.out, hbr⟩

end Ru
end Go.Proofs.Ytbncbkaonkcgeaa

namespace Go.Proofs.Ytbncbkaonkcgeaa
open Go.RowKit
namespace Ru
open Sl (strV Reads)

theorem bytes_list (s : List UInt8) : (⟨s.toArray⟩ : ByteArray).toList = s := by
  simp [ByteArray.toList_eq]
attribute [local go_sem] bytes_list

set_option maxHeartbeats 1000000 in
theorem test_any (u : List UInt8) (c1 c2 c3 c4 c5 : Value) (nm : List UInt8) (p : Nat) (w : World) (hp : w.cell? ⟨p, 0, none⟩ = some (strV nm)) (hlt : p < w.heap.size) :
    Calls Try.prog 97 #[.agg #[strV u, c1, c2, c3, c4, c5], .pointer (some ⟨p, 0, none⟩)] w fun e w' => e = .returned (.bool (u == nm)) ∧ Below w.heap.size w w' := by
  go_enter Try.func97, Try.ntmps97
  go_wp2
  go_ret
  exact ⟨rfl, (by repeat (first | exact Below.refl _ _ | assumption | refine Below.n _ ?_ (by first | omega | (simp; done) | (simp; omega)) | refine Below.alloc ?_ (by first | omega | (simp; done) | (simp; omega)) _ | refine Below.setCell ?_ (by first | omega | (simp; done) | (simp; omega)) _ | refine Below.drew ?_ | refine Below.setRow ?_ (by first | omega | (simp; done) | (simp; omega)) _ | refine Below.drewN ?_ _))⟩

theorem placeR_at {l : List Rule} {nm : List UInt8} {i : Nat} {x : Rule} (h : l[i]? = some x) (hn : i ≤ placeR l nm) : (x.name == nm) = true ↔ placeR l nm = i := by
  obtain ⟨hi, rfl⟩ := List.getElem?_eq_some_iff.1 h
  constructor
  · intro hx
    have : placeR l nm ≤ i := by
      rcases Nat.lt_or_ge i (placeR l nm) with hlt | hge
      · have := List.not_of_lt_findIdx (xs := l) (p := fun x : Rule => x.name == nm) hlt
        rw [hx] at this
        simp at this
      · exact hge
    omega
  · rintro hx
    have := placeR_name (l := l) (nm := nm) (r := l[i]) (by rw [hx]; exact List.getElem?_eq_getElem hi)
    simp [this]
theorem placeR_len (l : List Rule) (nm : List UInt8) : placeR l nm ≤ l.length := List.findIdx_le_length

set_option maxRecDepth 100000 in
set_option maxHeartbeats 2000000 in
theorem index_any (v : Value) (l : List Rule) (nm : List UInt8) (p : Nat) (w : World) (hr : RulesV w w.heap.size v l) (hp : w.cell? ⟨p, 0, none⟩ = some (strV nm)) (hpl : p < w.heap.size) :
    Calls Try.prog 96 #[v, .func (.func 97) #[] #[.pointer (some ⟨p, 0, none⟩)]] w fun e w' => e = .returned (.int .i64 (findI l nm)) ∧ Below w.heap.size w w' := by
  obtain ⟨A, cap, rfl, hlen, hc⟩ := hr
  replace hc := Lib.hid hc
  go_enter Try.func96, Try.ntmps96
  go_wp2
  go_loopg [8] l.length (fun n i wr => ∃ j : Nat, j ≤ l.length ∧ n = l.length - j ∧ i = .int .i64 j ∧ Below w.heap.size w wr ∧ j ≤ placeR l nm)
  case atStart => exact ⟨0, by omega, rfl, rfl, Below.refl _ _, Nat.zero_le _⟩
  case round =>
    obtain ⟨j, hj, hn, rfl, hb, hpj⟩ := hrel
    replace hn := Lib.hid hn
    by_cases hlt : j < l.length
    · obtain ⟨x, hx⟩ : ∃ x, l[j]? = some x := ⟨_, List.getElem?_eq_getElem hlt⟩
      obtain ⟨b, o, rfl, hbl, k0, hnl, hE⟩ := hc.out j x hx
      have z := hb.size
      obtain ⟨v0, v1, v2, v3, hnl1, A1, cap1, v4, hkl1, hkv1⟩ := (hE.below hb (Nat.le_refl _) (Nat.le_refl _) hbl).out
      have d0 : wr.cell? ⟨b, o + j * 6, none⟩ = some (strV x.name) := (hb.cell (p := ⟨b, _, none⟩) hbl).trans k0
      have d1 : wr.cell? ⟨b, o + j * 6 + 1, none⟩ = some (.int .i64 x.expr.kind) := v0
      have d2 : wr.cell? ⟨b, o + j * 6 + 2, none⟩ = some (.int .i64 x.expr.a) := v1
      have d3 : wr.cell? ⟨b, o + j * 6 + 3, none⟩ = some (.int .i64 x.expr.b) := v2
      have d4 : wr.cell? ⟨b, o + j * 6 + 4, none⟩ = some (strV x.expr.name) := v3
      have d5 : wr.cell? ⟨b, o + j * 6 + 5, none⟩ = some (.slice A1 x.expr.kids.length cap1) := v4
      have hpa := placeR_at (nm := nm) hx hpj
      have ht := Lib.hid (test_any x.name (.int .i64 x.expr.kind) (.int .i64 x.expr.a) (.int .i64 x.expr.b) (strV x.expr.name) (.slice A1 x.expr.kids.length cap1) nm p wr ((hb.cell (p := ⟨p, _, none⟩) hpl).trans hp) (by omega))
      clear v0 v1 v2 v3 v4 hx hE k0 hkv1
      cases ht2 : (x.name == nm) with
      | true =>
        have hp1 := hpa.1 ht2
        rw [ht2] at ht
        have hres := Lib.hid (show findI l nm = (j : Int) by unfold findI; rw [hp1, if_pos hlt])
        clear ht2 hpa hp1
        go_wp2_with (go_at_call 97; refine ht.out.mono ?_; rintro e w2 ⟨rfl, hb2⟩; obtain ⟨n2, rfl⟩ := After.of hb2)
        go_ret
        exact ⟨by rw [hres.out]; rfl, (by repeat (first | exact Below.refl _ _ | assumption | refine Below.n _ ?_ (by first | omega | (simp; done) | (simp; omega)) | refine Below.alloc ?_ (by first | omega | (simp; done) | (simp; omega)) _ | refine Below.setCell ?_ (by first | omega | (simp; done) | (simp; omega)) _ | refine Below.drew ?_ | refine Below.setRow ?_ (by first | omega | (simp; done) | (simp; omega)) _ | refine Below.drewN ?_ _))⟩
      | false =>
        have hp1 : j + 1 ≤ placeR l nm := by
          rcases Nat.lt_or_ge j (placeR l nm) with h | h
          · exact h
          · have := hpa.2 (by omega); rw [ht2] at this; cases this
        rw [ht2] at ht
        clear ht2 hpa
        go_wp2_with (go_at_call 97; refine ht.out.mono ?_; rintro e w2 ⟨rfl, hb2⟩; obtain ⟨n2, rfl⟩ := After.of hb2)
        go_roundg (l.length - (j + 1))
        case measure => rw [hn.out]; omega
        case rel => exact ⟨j + 1, by omega, rfl, by go_num, (by repeat (first | exact Below.refl _ _ | assumption | refine Below.n _ ?_ (by first | omega | (simp; done) | (simp; omega)) | refine Below.alloc ?_ (by first | omega | (simp; done) | (simp; omega)) _ | refine Below.setCell ?_ (by first | omega | (simp; done) | (simp; omega)) _ | refine Below.drew ?_ | refine Below.setRow ?_ (by first | omega | (simp; done) | (simp; omega)) _ | refine Below.drewN ?_ _)), hp1⟩
    · have hp1 := placeR_len l nm
      have hres := Lib.hid (show findI l nm = -1 by unfold findI; rw [if_neg (by omega)])
      obtain rfl : j = l.length := by omega
      go_wp2
      go_ret
      exact ⟨by rw [hres.out]; rfl, (by repeat (first | exact Below.refl _ _ | assumption | refine Below.n _ ?_ (by first | omega | (simp; done) | (simp; omega)) | refine Below.alloc ?_ (by first | omega | (simp; done) | (simp; omega)) _ | refine Below.setCell ?_ (by first | omega | (simp; done) | (simp; omega)) _ | refine Below.drew ?_ | refine Below.setRow ?_ (by first | omega | (simp; done) | (simp; omega)) _ | refine Below.drewN ?_ _))⟩

set_option maxHeartbeats 1000000 in
theorem Find_any (v : Value) (l : List Rule) (nm : List UInt8) (w : World) (hr : RulesV w w.heap.size v l) :
    Calls Try.prog 58 #[v, strV nm] w fun e w' => e = .returned (.int .i64 (findI l nm)) ∧ Below w.heap.size w w' := by
  have hb : Below w.heap.size w (w.alloc (.cells #[strV nm] 9)) := (Below.refl _ _).alloc (Nat.le_refl _) _
  have hi := index_any v l nm w.heap.size (w.alloc (.cells #[strV nm] 9)) (hr.below hb (Nat.le_refl _) (by simp)) ((Blk.new w 9 #[strV nm]).cell 0) (by simp)
  replace hi := Lib.hid hi
  have hrr := Lib.hid hr
  clear hr
  obtain ⟨A, cap, rfl, _⟩ := hrr.out
  go_enter Try.func58, Try.ntmps58
  go_wp2_with (go_at_call 96; refine hi.out.mono ?_; rintro e w2 ⟨rfl, hb2⟩)
  go_ret
  exact ⟨rfl, hb.trans (hb2.mono (by simp))⟩

end Ru
end Go.Proofs.Ytbncbkaonkcgeaa

namespace Go.Proofs.Ytbncbkaonkcgeaa
open Go.RowKit
namespace Ru
open Sl (strV Reads)

theorem directR_at {l : List Rule} {i : Nat} {r : Rule} (h : l[i]? = some r) : directR l i = (namesE r.expr).map (findI l) := by
  unfold directR
  rw [h]
  rfl
theorem own_elem {w : World} {base e n : Nat} {v : Value} {xs : List Value} (h : w.ownsRow base e 1 v n xs) {i : Nat} {x : Value} (hx : xs[i]? = some x) : ∃ g cap, v = .slice (some ⟨g, 0, none⟩) n cap ∧ g < w.heap.size ∧ w.cell? ⟨g, i, none⟩ = some x := by
  have hl : xs.length = n := by have := h.1; simpa using this
  have hi := (List.getElem?_eq_some_iff.1 hx).1
  rcases h.2 with ⟨_, h0⟩ | ⟨g, cap, cur, rfl, _, hh, _⟩
  · omega
  · refine ⟨g, cap, rfl, (Array.getElem?_eq_some_iff.1 hh).1, ?_⟩
    have := h.cells (g := g) rfl i _ hx
    rw [Addr.add_lit, Nat.zero_add] at this
    exact this

set_option maxRecDepth 100000 in
set_option maxHeartbeats 8000000 in
theorem direct_any (v : Value) (l : List Rule) (w : World) (hr : RulesV w w.heap.size v l) (h40 : l.length ≤ 40) (hN : ∀ r ∈ l, nodesE r.expr ≤ 600) :
    Calls Try.prog 59 #[v] w fun e w' => ∃ ov, e = .returned ov ∧ NextV w' w.heap.size ov ((List.range l.length).map (directR l)) ∧ Below w.heap.size w w' := by
  have hrr := Lib.hid hr
  obtain ⟨A, cap, rfl, hlen, hc⟩ := hr
  replace hc := Lib.hid hc
  replace hN := Lib.hid hN
  go_enter Try.func59, Try.ntmps59
  go_wp2
  go_loopg [3, 10] l.length (fun n ov k wr => ∃ j : Nat, j ≤ l.length ∧ n = l.length - j ∧ k = .int .i64 j ∧ Hid (NextV wr w.heap.size ov ((List.range j).map (directR l))) ∧ Below w.heap.size w wr)
  case atStart => exact ⟨0, by omega, rfl, rfl, Lib.hid (NextV.nil _ _), Below.refl _ _⟩
  case round =>
    obtain ⟨j, hj, hn, rfl, hO, hb⟩ := hrel
    replace hn := Lib.hid hn
    have zb := hb.size
    by_cases hlt : j < l.length
    · obtain ⟨r, hx⟩ : ∃ r, l[j]? = some r := ⟨_, List.getElem?_eq_getElem hlt⟩
      obtain ⟨b, o, rfl, hbl, k0, hnl, hE⟩ := hc.out j r hx
      have hn6 := hN.out r (List.mem_of_getElem? hx)
      have hnl6 := names_len r.expr
      have hda := Lib.hid (directR_at hx)
      have hnm := Lib.hid (names_any (nodesE r.expr) r.expr wr w.heap.size wr.heap.size b (o + j * 6 + 1) (.slice none 0 0) [] (Nat.le_refl _) (hE.below hb (Nat.le_refl _) (Nat.le_refl _) hbl) hbl zb (Nat.le_refl _) (by simp; omega) (World.ownsRow_nil _ _ _ _))
      clear k0 hnl hE hx
      generalize hns : namesE r.expr = ns at *
      clear hns
      obtain ⟨wo, hwo⟩ : ∃ wo, wo = wr := ⟨_, rfl⟩
      subst hwo
      go_wp2_with (go_at_call 98; refine hnm.out.mono ?_; rintro e w1 ⟨v5, rfl, ho5, hb5⟩; rw [List.nil_append] at ho5; obtain ⟨A5, cap5, rfl⟩ := own_slice ho5; replace ho5 := Lib.hid ho5)
      have z1 := hb5.size
      go_loopg [5, 19] ns.length (fun m mv k wq => ∃ i : Nat, i ≤ ns.length ∧ m = ns.length - i ∧ k = .int .i64 i ∧ Hid (wq.ownsRow w1.heap.size 3 1 mv i (((ns.take i).map (findI l)).map (Value.int .i64))) ∧ Below w1.heap.size w1 wq)
      case atStart => exact ⟨0, by omega, rfl, rfl, Lib.hid (World.ownsRow_nil _ _ _ _), Below.refl _ _⟩
      case round =>
        obtain ⟨i, hi, hm, rfl, hM, hbq⟩ := hrel
        replace hm := Lib.hid hm
        obtain ⟨wp, hwp⟩ : ∃ wp, wp = wr := ⟨_, rfl⟩
        subst hwp
        have zq := hbq.size
        by_cases hlt2 : i < ns.length
        · obtain ⟨s, hs⟩ : ∃ s, ns[i]? = some s := ⟨_, List.getElem?_eq_getElem hlt2⟩
          obtain ⟨g5, cap6, he5, hg5, hc5⟩ := own_elem (own_keep ho5.out hbq (Nat.le_refl _)) (i := i) (x := strV s) (by rw [List.getElem?_map, hs]; rfl)
          cases he5
          have hbw : Below w.heap.size w wp := (hb.trans (hb5.mono zb)).trans (hbq.mono (by omega))
          have hF := Lib.hid (Find_any _ l s wp (hrr.out.below hbw (Nat.le_refl _) (by omega)))
          have hsnoc : ((ns.take (i + 1)).map (findI l)).map (Value.int .i64) = ((ns.take i).map (findI l)).map (Value.int .i64) ++ [Value.int .i64 (findI l s)] := by
            rw [List.take_add_one, hs]
            simp
          replace hsnoc := Lib.hid hsnoc
          clear hs
          go_wp2_with (first
            | (go_at_call 58; refine hF.out.mono ?_; rintro e w2 ⟨rfl, hb2⟩)
            | (at_builtin; refine wpList_append_one elInts rfl (.tmp 23) (.tmp 27) rfl w1.heap.size _ i (((ns.take i).map (findI l)).map (Value.int .i64)) (own_keep hM.out hb2 (Nat.le_refl _)) _ _ rfl rfl rfl (by simp only [maxLen]; omega) (by omega) (by have := hb2.size; omega) ?_; intro v3 w3 ho3 hb3 hg3))
          go_roundg (ns.length - (i + 1))
          case measure => rw [hm.out]; omega
          case rel => exact ⟨i + 1, by omega, rfl, by go_num, by rw [hsnoc.out]; exact ho3, hbq.trans ((hb2.mono zq).trans hb3)⟩
        · obtain rfl : i = ns.length := by omega
          rw [List.take_length, ← hda.out] at hM
          have hbw : Below wo.heap.size wo wp := hb5.trans (hbq.mono z1)
          obtain ⟨vs, hv1, hv2⟩ := hO.out.below hbw (Nat.le_refl _)
          have hdl : (directR l j).length = ns.length := by rw [hda.out, List.length_map]
          have hol : ((List.range j).map (directR l)).length = j := by simp
          rw [hol] at hv1
          replace hv1 := Lib.hid hv1
          replace hv2 := Lib.hid hv2
          obtain ⟨A8, cap8, rfl⟩ := own_slice hM.out
          go_wp2_with (at_builtin; refine wpList_append_one elInts2 rfl (.tmp 30) (.tmp 32) rfl w.heap.size _ j vs hv1.out _ _ rfl rfl rfl (by simp only [maxLen]; omega) (by omega) (by omega) ?_; intro v3 w3 ho3 hb3 hg3)
          go_roundg (l.length - (j + 1))
          case measure => rw [hn.out]; omega
          case rel =>
            refine ⟨j + 1, by omega, rfl, by go_num, Lib.hid ?_, (hb.trans (hbw.mono zb)).trans hb3⟩
            rw [List.range_succ, List.map_append]
            have hal : Below wp.heap.size wp (wp.alloc (.cells #[.slice A8 ns.length cap8] 37)) := (Below.refl _ _).alloc (Nat.le_refl _) _
            refine NextV.snoc (W := wp.alloc (.cells #[.slice A8 ns.length cap8] 37)) (by rw [hol]; exact own_keep hv1.out hal (Nat.le_refl _)) (fun i u hu x hx => own_keep (hv2.out i u hu x hx) hal (Nat.le_refl _)) ?_ (by rw [hol]; exact ho3) hg3
            rw [hdl]
            exact own_keep (own_mono hM.out (by omega)) hal (Nat.le_refl _)
    · obtain rfl : j = l.length := by omega
      go_wp2
      go_ret
      exact ⟨_, rfl, hO.out, hb⟩

end Ru
end Go.Proofs.Ytbncbkaonkcgeaa
