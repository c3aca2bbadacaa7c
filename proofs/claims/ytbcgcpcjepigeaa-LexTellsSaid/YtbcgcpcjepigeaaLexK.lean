/- The walk of lex.Lex. -/
import Derived.Test.YtbcgcpcjepigeaaLexS
import Derived.Test.YtbcgcpcjepigeaaLexL
import Derived.Test.YtbcgcpcjepigeaaApp
namespace Go.Proofs.Ytbcgcpcjepigeaa
open Go.RowKit
namespace Lx
open Sl (strV)

theorem el_tok : El Try.prog 22 34 4 40 := El.mk' Try.underlying22 (by kernel_rfl) (by omega)
/-- a token's cells -/
def tokC (t : Tok) : List Value := [.int .i64 t.1, .int .i64 t.2.1, .int .i64 t.2.2.1, strV t.2.2.2]
def toksC (l : List Tok) : List Value := l.flatMap tokC
theorem toksC_snoc (l : List Tok) (t : Tok) : toksC l ++ tokC t = toksC (l ++ [t]) := by simp [toksC]
/-- what is answered of a text -/
def LexPost (s : List UInt8) (w : World) (e : Ending) (w' : World) : Prop :=
  ∃ v, e = .returned (.tuple #[v, .agg #[.int .i64 (lexV s).2.1, .int .i64 (lexV s).2.2]]) ∧ Below w.heap.size w w' ∧ w'.ownsRow w.heap.size 34 4 v (lexV s).1.length (toksC (lexV s).1)

set_option maxHeartbeats 400000 in
theorem Lex_much (s : List UInt8) (w : World) (hl : 6000 < s.length) (hl2 : s.length ≤ 9223372036854775807) : Calls Try.prog 10 #[strV s] w (LexPost s w) := by
  have e : lexV s = ([], 4, 0) := by unfold lexV; rw [if_pos hl]
  unfold LexPost
  rw [e]
  clear e
  go_enter Try.func10, Try.ntmps10
  go_wp2
  refine bodyPost_ret (v := .tuple #[.slice none 0 0, .agg #[.int .i64 4, .int .i64 0]]) ?_ rfl ⟨_, rfl, (by repeat (first | exact Below.refl _ _ | assumption | refine Below.n _ ?_ (by first | omega | (simp; done) | (simp; omega)) | refine Below.alloc ?_ (by first | omega | (simp; done) | (simp; omega)) _ | refine Below.setCell ?_ (by first | omega | (simp; done) | (simp; omega)) _ | refine Below.drew ?_ | refine Below.setRow ?_ (by first | omega | (simp; done) | (simp; omega)) _ | refine Below.drewN ?_ _)), World.ownsRow_nil _ _ _ _⟩
  simp [results, Try.results10, go_sem]

set_option maxHeartbeats 2000000 in
set_option maxRecDepth 100000 in
theorem Lex_fits (s : List UInt8) (w : World) (hl : s.length ≤ 6000) : Calls Try.prog 10 #[strV s] w (LexPost s w) := by
  have e0 : lexV s = lexR s.length s 0 := by unfold lexV; rw [if_neg (by omega)]
  have e0 := Lib.hid e0
  unfold LexPost
  go_enter Try.func10, Try.ntmps10
  go_wp2_with fail
  go_loopg [4, 5] s.length (fun q v k wr => ∃ (a f : Nat) (acc : List Tok), a ≤ s.length ∧ q = s.length - a ∧ k = .int .i64 a ∧ q ≤ f ∧ acc.length ≤ a ∧ Hid (lexV s = fin acc (lexR f (s.drop a) a)) ∧ wr.ownsRow (w.heap.size + 1) 34 4 v acc.length (toksC acc) ∧
    Below w.heap.size w wr ∧ w.heap.size + 1 ≤ wr.heap.size ∧ Blk wr w.heap.size 25 #[.int .i64 0, .int .i64 0])
  case atStart => exact ⟨0, s.length, [], by omega, rfl, rfl, by omega, by simp, Lib.hid (by rw [e0.out, List.drop_zero, fin_nil _ (lexR_form _ _ _).1 (lexR_form _ _ _).2]), World.ownsRow_nil _ _ _ _, (by repeat (first | exact Below.refl _ _ | assumption | refine Below.n _ ?_ (by first | omega | (simp; done) | (simp; omega)) | refine Below.alloc ?_ (by first | omega | (simp; done) | (simp; omega)) _ | refine Below.setCell ?_ (by first | omega | (simp; done) | (simp; omega)) _ | refine Below.drew ?_ | refine Below.setRow ?_ (by first | omega | (simp; done) | (simp; omega)) _ | refine Below.drewN ?_ _)), by simp, Blk.new _ _ _⟩
  case round =>
    obtain ⟨a, f, acc, ha, hq, rfl, hf, hacc, hlx, ho, hb, hsz, B⟩ := hrel
    replace hq := Lib.hid hq
    clear e0
    by_cases hlt : a < s.length
    · obtain ⟨c, hc⟩ : ∃ c, s[a]? = some c := ⟨_, List.getElem?_eq_getElem hlt⟩
      obtain ⟨f, rfl⟩ : ∃ f', f = f' + 1 := ⟨f - 1, by have := hq.out; omega⟩
      have hbx := bAt_of hc
      have hltI : (a : Int) < s.length := by omega
      have e32 := beqI (c := c) (x := 32)
      have e10 := beqI (c := c) (x := 10)
      have e9 := beqI (c := c) (x := 9)
      have e35 := beqI (c := c) (x := 35)
      simp only [show ((32 : UInt8).toNat : Int) = 32 from rfl, show ((10 : UInt8).toNat : Int) = 10 from rfl, show ((9 : UInt8).toNat : Int) = 9 from rfl, show ((35 : UInt8).toNat : Int) = 35 from rfl] at e32 e10 e9 e35
      cases hs : spc c with
      | true =>
        have hl2 := Lib.hid (lexR_sp (f := f) hc hs)
        have h3 := spc_cases hs
        clear hs hc e35
        rcases h3 with h | ⟨h, h'⟩ | ⟨h, h', h''⟩
        · rw [h] at e32; clear e10 e9
          go_wp2
          go_roundg (s.length - (a + 1))
          case measure => rw [hq.out]; omega
          case rel => exact ⟨a + 1, f, acc, by omega, rfl, by go_num, by have := hq.out; omega, by omega, Lib.hid (by rw [hlx.out, hl2.out]), ho, hb, hsz, B⟩
        · rw [h] at e32; rw [h'] at e10; clear e9
          go_wp2
          go_roundg (s.length - (a + 1))
          case measure => rw [hq.out]; omega
          case rel => exact ⟨a + 1, f, acc, by omega, rfl, by go_num, by have := hq.out; omega, by omega, Lib.hid (by rw [hlx.out, hl2.out]), ho, hb, hsz, B⟩
        · rw [h] at e32; rw [h'] at e10; rw [h''] at e9
          go_wp2
          go_roundg (s.length - (a + 1))
          case measure => rw [hq.out]; omega
          case rel => exact ⟨a + 1, f, acc, by omega, rfl, by go_num, by have := hq.out; omega, by omega, Lib.hid (by rw [hlx.out, hl2.out]), ho, hb, hsz, B⟩
      | false =>
        obtain ⟨n1, n2, n3⟩ := spc_no hs
        rw [n1] at e32
        rw [n2] at e10
        rw [n3] at e9
        clear n1 n2 n3
        cases h35 : (c == 35) with
        | true =>
          obtain rfl : c = 35 := by simpa using h35
          rw [h35] at e35
          have hl2 := Lib.hid (lexR_note (f := f) hc)
          have hR := run_le notNl (s.drop a)
          rw [List.length_drop] at hR
          have hR1 : 1 ≤ run notNl (s.drop a) := by rw [drop_at hc]; unfold run; rw [if_pos (by decide)]; omega
          have hry := Lib.hid (fun i x (h : i < run notNl (s.drop a)) (hx : s[a + i]? = some x) => run_yes (f := notNl) h (c := x) (by rw [List.getElem?_drop]; exact hx))
          have hrn := Lib.hid (fun x (hx : s[a + run notNl (s.drop a)]? = some x) => run_no (f := notNl) (s := s.drop a) (c := x) (by rw [List.getElem?_drop]; exact hx))
          generalize run notNl (s.drop a) = R at *
          clear hc hs h35
          go_wp2_with fail
          obtain ⟨wo, rfl⟩ : ∃ wo : World, wo = wr := ⟨_, rfl⟩
          clear hltI hlt hbx e32 e10 e9 e35
          go_loopg [5] R (fun q k wr2 => ∃ b : Nat, a ≤ b ∧ b ≤ a + R ∧ q = a + R - b ∧ k = .int .i64 b ∧ wr2 = wo)
          case atStart => exact ⟨a, by omega, by omega, by omega, rfl, rfl⟩
          case round =>
            obtain ⟨b, hab, hj, hk, rfl, rfl⟩ := hrel
            replace hk := Lib.hid hk
            by_cases hlt : b < a + R
            · obtain ⟨x, hx⟩ : ∃ x, s[b]? = some x := ⟨_, List.getElem?_eq_getElem (by omega)⟩
              have hnx := hry.out (b - a) x (by omega) (by rw [show a + (b - a) = b by omega]; exact hx)
              have hbx := bAt_of hx
              have e10 := bneI (c := x) (x := 10)
              simp only [show ((10 : UInt8).toNat : Int) = 10 from rfl] at e10
              rw [nl_ne hnx] at e10
              have hbI : (b : Int) < s.length := by omega
              clear hx hnx
              go_wp2
              go_roundg (a + R - (b + 1))
              case measure => rw [hk.out]; omega
              case rel => exact ⟨b + 1, by omega, by omega, rfl, by go_num, rfl⟩
            · obtain rfl : b = a + R := by omega
              obtain ⟨z, hz⟩ : ∃ z, a + R = z := ⟨_, rfl⟩
              rw [hz] at hl2 hrn hj
              by_cases hend : z < s.length
              · obtain ⟨x, hx⟩ : ∃ x, s[z]? = some x := ⟨_, List.getElem?_eq_getElem hend⟩
                have hnx := hrn.out x hx
                have hbx := bAt_of hx
                have e10 := bneI (c := x) (x := 10)
                simp only [show ((10 : UInt8).toNat : Int) = 10 from rfl] at e10
                rw [nl_eq hnx] at e10
                have hbI : (z : Int) < s.length := by omega
                rw [hz]
                replace hz := Lib.hid hz
                clear hx hnx
                go_wp2
                go_roundg (s.length - z)
                case measure => rw [hq.out]; have := hz.out; omega
                case rel => exact ⟨z, f, acc, by omega, rfl, rfl, by have := hq.out; have := hz.out; omega, by have := hz.out; omega, Lib.hid (by rw [hlx.out, hl2.out]), ho, hb, hsz, B⟩
              · obtain rfl : z = s.length := by omega
                rw [hz]
                replace hz := Lib.hid hz
                go_wp2
                go_roundg (s.length - s.length)
                case measure => rw [hq.out]; have := hz.out; omega
                case rel => exact ⟨s.length, f, acc, by omega, rfl, rfl, by have := hq.out; have := hz.out; omega, by have := hz.out; omega, Lib.hid (by rw [hlx.out, hl2.out]), ho, hb, hsz, B⟩
        | false =>
          rw [h35] at e35
          have hne : c ≠ 35 := by simpa using h35
          have hpos : s.drop a ≠ [] := by rw [drop_at hc]; simp
          have cO := one_any (s.drop a)
          have hol := Lib.hid (fun h => one_len hpos h)
          have htk := Lib.hid (fun h => lexR_tok (f := f) hc hs hne h)
          have hbd := Lib.hid (fun h => lexR_bad (f := f) hc hs hne h)
          have hld : (s.drop a).length = s.length - a := by simp
          obtain ⟨⟨⟨t1, t2, t3, t4⟩, tn, te⟩, ho1⟩ : ∃ x, one (s.drop a) = x := ⟨_, rfl⟩
          unfold OnePost retOne at cO
          rw [ho1] at cO hol htk hbd
          dsimp only at cO
          have cO1 := Lib.hid (fun W => cO W (by rw [hld]; omega) (by rw [hld]; omega))
          clear cO hc hs h35 hne hpos
          go_wp2_with fail
          refine (cO1.out _).mono ?_
          rintro e1 w1 ⟨rfl, hb1⟩
          have B1 := B.below hb1 (by omega)
          have z1 := hb1.size
          have ho2 := Lib.hid (own_keep ho hb1 (Nat.le_refl _))
          have hbw := hb.trans (hb1.mono (by omega))
          have k0 : w1.cell? ⟨w.heap.size, 0, none⟩ = some (.int .i64 0) := B1.cell 0
          have k1 : w1.cell? ⟨w.heap.size, 1, none⟩ = some (.int .i64 0) := B1.cell 1
          have f0 : ∀ j, w1.frozen? ⟨w.heap.size, j, none⟩ = false := fun j => B1.frozen j
          clear B hb hb1 ho cO1
          by_cases hte : te = 0
          · subst hte
            have htk2 := Lib.hid (htk.out rfl)
            obtain ⟨hn1, hn2⟩ := hol.out rfl
            obtain ⟨n, rfl⟩ : ∃ n : Nat, tn = n := ⟨tn.toNat, by omega⟩
            clear hbd htk hol
            have hnew := Lib.hid (show ∀ u ∈ (#[.int .i64 t1, .int .i64 t2, .int .i64 (a : Int), strV t4] : Array Value).toList, u.oneCell' = true from fun u hu => by simp at hu; rcases hu with rfl | rfl | rfl | rfl <;> rfl)
            have hz1 : w.heap.size + 1 ≤ w1.heap.size := by omega
            go_wp2_with (at_builtin; refine wpList_append_lit el_tok rfl (.tmp 68) (.tmp 70) rfl (w.heap.size + 1) u4 acc.length (toksC acc) (ho2.out.alloc _) #[.int .i64 t1, .int .i64 t2, .int .i64 (a : Int), strV t4] 34 rfl (by rw [World.size_alloc]; rfl) rfl hnew.out (by simp only [maxLen]; omega) (by omega) (Nat.le_trans hz1 ((Below.refl w1.heap.size w1).alloc (Nat.le_refl _) _).size) ?_; intro v' w5 hown5 hb5 hs5)
            have hm : Below (w.heap.size + 1) w1 w5 := ((Below.refl _ _).alloc hz1 _).trans hb5
            have hz5 := hb5.size
            simp only [World.size_alloc] at hz5
            go_roundg (s.length - (a + n))
            case measure => rw [hq.out]; omega
            case rel => exact ⟨a + n, f, acc ++ [(t1, t2, (a : Int), t4)], by omega, rfl, by go_num, by have := hq.out; omega, by simp; omega, Lib.hid (by rw [hlx.out, htk2.out, fin_fin]; rfl), by rw [List.length_append, ← toksC_snoc]; exact hown5, hbw.trans (hm.mono (by omega)), by omega, B1.below hm (by omega)⟩
          · have hbd2 := Lib.hid (hbd.out hte)
            have gte : (te == 0) = false := by simpa using hte
            clear htk hbd hol hte
            go_wp2
            have e := hlx.out
            rw [hbd2.out] at e
            simp only [fin] at e
            rw [if_neg (by simpa using gte)] at e
            refine bodyPost_ret (v := .tuple #[.slice none 0 0, .agg #[.int .i64 te, .int .i64 (a : Int)]]) ?_ rfl (by rw [e]; exact ⟨_, rfl, (((hbw.alloc (by omega) _).setCell (by first | omega | (simp; done) | (simp; omega)) _).setCell (by first | omega | (simp; done) | (simp; omega)) _), World.ownsRow_nil _ _ _ _⟩)
            have hw : w.heap.size < w1.heap.size := by omega
            simp [results, Try.results10, go_sem, k0, k1, hw]
    · obtain rfl : a = s.length := by omega
      have e := hlx.out
      rw [lexR_end (Nat.le_refl _)] at e
      have k0 : wr.cell? ⟨w.heap.size, 0, none⟩ = some (.int .i64 0) := B.cell 0
      have k1 : wr.cell? ⟨w.heap.size, 1, none⟩ = some (.int .i64 0) := B.cell 1
      have f0 : ∀ j, wr.frozen? ⟨w.heap.size, j, none⟩ = false := fun j => B.frozen j
      go_wp2
      refine bodyPost_ret (v := .tuple #[u4, .agg #[.int .i64 0, .int .i64 0]]) ?_ rfl (by rw [e]; simp only [fin, if_true, List.append_nil]; exact ⟨_, rfl, (hb.setCell (by first | omega | (simp; done) | (simp; omega)) _).setCell (by first | omega | (simp; done) | (simp; omega)) _, own_mono (own_far (own_far ho (by first | omega | (simp; done) | (simp; omega)) _) (by first | omega | (simp; done) | (simp; omega)) _) (by omega)⟩)
      simp [results, Try.results10, go_sem, k0, k1]

end Lx
end Go.Proofs.Ytbcgcpcjepigeaa
