/- The walk of the reference's Lex. -/
import Derived.Test.YtfhedopfjgjffaaLexTa
import Derived.Test.YtfhedopfjgjffaaLexTb
import Derived.Test.YtfhedopfjgjffaaLexTc
import Derived.Test.YtfhedopfjgjffaaLexA
namespace Go.Proofs.Ytfhedopfjgjffaa
open Go.RowKit
namespace Lx
open Sl (strV)

theorem One_any (s : List UInt8) (a : Nat) (w : World) (hl : s.length ≤ 6000) (ha : a < s.length) : Calls Try.prog 73 #[strV s, .int .i64 a] w (ROnePost s a w) := by
  obtain ⟨c, hc⟩ : ∃ c, s[a]? = some c := ⟨_, List.getElem?_eq_getElem ha⟩
  cases h0 : shapeGo (s.drop a) dateS with
  | true => exact One_date s a w hl ha h0
  | false =>
    cases h1 : shapeGo (s.drop a) timeS with
    | true => exact One_time s a w hl ha h0 h1
    | false =>
      cases hd : digit c.toNat with
      | true => exact One_number s a c w hl hc h0 h1 hd
      | false =>
        cases hs : small c.toNat with
        | true => exact One_name s a c w hl hc h0 h1 hs
        | false => exact One_signs s a c w hl hc h0 h1 hd hs

/-- where the reader of a note goes on -/
def goesOn (s : List UInt8) (a : Nat) (nt : Bool) : Nat := if nt = true then a + run notNl (s.drop a) else a
theorem goesOn_in {s : List UInt8} {a : Nat} {c : UInt8} (hc : s[a]? = some c) (h : notNl c.toNat = true) : goesOn s (a + 1) true = goesOn s a true := by
  unfold goesOn
  simp only [if_true]
  conv => rhs; rw [drop_at hc]; unfold run
  rw [if_pos h]; omega
theorem goesOn_nl {s : List UInt8} {a : Nat} (hc : s[a]? = some 10) : goesOn s a true = a := by
  unfold goesOn
  simp only [if_true]
  rw [drop_at hc]; unfold run
  rw [if_neg (by decide)]; omega
theorem goesOn_le (s : List UInt8) (a : Nat) (nt : Bool) : a ≤ goesOn s a nt := by unfold goesOn; split <;> omega

set_option maxHeartbeats 400000 in
theorem RLex_much (s : List UInt8) (w : World) (hl : 6000 < s.length) (hl2 : s.length ≤ 9223372036854775807) : Calls Try.prog 41 #[strV s] w (LexPost s w) := by
  have e : lexV s = ([], 4, 0) := by unfold lexV; rw [if_pos hl]
  unfold LexPost
  rw [e]
  clear e
  go_enter Try.func41, Try.ntmps41
  go_wp2
  refine bodyPost_ret (v := .tuple #[.slice none 0 0, .agg #[.int .i64 4, .int .i64 0]]) ?_ rfl ⟨_, rfl, (by repeat (first | exact Below.refl _ _ | assumption | refine Below.n _ ?_ (by first | omega | (simp; done) | (simp; omega)) | refine Below.alloc ?_ (by first | omega | (simp; done) | (simp; omega)) _ | refine Below.setCell ?_ (by first | omega | (simp; done) | (simp; omega)) _ | refine Below.drew ?_ | refine Below.setRow ?_ (by first | omega | (simp; done) | (simp; omega)) _ | refine Below.drewN ?_ _)), World.ownsRow_nil _ _ _ _⟩
  simp [results, Try.results41, go_sem]

set_option maxHeartbeats 2000000 in
set_option maxRecDepth 100000 in
theorem RLex_fits (s : List UInt8) (w : World) (hl : s.length ≤ 6000) : Calls Try.prog 41 #[strV s] w (LexPost s w) := by
  have e0 : lexV s = lexR s.length s 0 := by unfold lexV; rw [if_neg (by omega)]
  have e0 := Lib.hid e0
  unfold LexPost
  go_enter Try.func41, Try.ntmps41
  go_wp2_with fail
  go_loopg [4, 5, 6] s.length (fun q v nv k wr => ∃ (a f : Nat) (nt : Bool) (acc : List Tok), a ≤ s.length ∧ q = s.length - a ∧ k = .int .i64 a ∧ nv = .bool nt ∧ s.length ≤ goesOn s a nt + f ∧ acc.length ≤ a ∧ Hid (lexV s = fin acc (lexR f (s.drop (goesOn s a nt)) (goesOn s a nt))) ∧ wr.ownsRow (w.heap.size + 1) 75 4 v acc.length (toksC acc) ∧
    Below w.heap.size w wr ∧ w.heap.size + 1 ≤ wr.heap.size ∧ Blk wr w.heap.size 25 #[.int .i64 0, .int .i64 0])
  case atStart => exact ⟨0, s.length, false, [], by omega, rfl, rfl, rfl, by unfold goesOn; simp, by simp, Lib.hid (by rw [e0.out]; show _ = fin [] (lexR s.length (s.drop 0) 0); rw [List.drop_zero, fin_nil _ (lexR_form _ _ _).1 (lexR_form _ _ _).2]), World.ownsRow_nil _ _ _ _, (by repeat (first | exact Below.refl _ _ | assumption | refine Below.n _ ?_ (by first | omega | (simp; done) | (simp; omega)) | refine Below.alloc ?_ (by first | omega | (simp; done) | (simp; omega)) _ | refine Below.setCell ?_ (by first | omega | (simp; done) | (simp; omega)) _ | refine Below.drew ?_ | refine Below.setRow ?_ (by first | omega | (simp; done) | (simp; omega)) _ | refine Below.drewN ?_ _)), by simp, Blk.new _ _ _⟩
  case round =>
    obtain ⟨a, f, nt, acc, ha, hq, rfl, rfl, hf, hacc, hlx, ho, hb, hsz, B⟩ := hrel
    replace hq := Lib.hid hq
    replace hf := Lib.hid hf
    clear e0
    by_cases hlt : a < s.length
    · obtain ⟨c, hc⟩ : ∃ c, s[a]? = some c := ⟨_, List.getElem?_eq_getElem hlt⟩
      have hbx := bAt_of hc
      have hltI : (a : Int) < s.length := by omega
      have e32 := beqI (c := c) (x := 32)
      have e10 := beqI (c := c) (x := 10)
      have e9 := beqI (c := c) (x := 9)
      have e35 := beqI (c := c) (x := 35)
      simp only [show ((32 : UInt8).toNat : Int) = 32 from rfl, show ((10 : UInt8).toNat : Int) = 10 from rfl, show ((9 : UInt8).toNat : Int) = 9 from rfl, show ((35 : UInt8).toNat : Int) = 35 from rfl] at e32 e10 e9 e35
      -- what comes next, if the byte is passed over
      have hpass : (c = 10 ∧ Hid (∃ f2, s.length ≤ goesOn s (a + 1) false + f2 ∧ lexV s = fin acc (lexR f2 (s.drop (goesOn s (a + 1) false)) (goesOn s (a + 1) false)))) ∨
          (c ≠ 10 ∧ (c = 35 ∨ nt = true) ∧ Hid (∃ f2, s.length ≤ goesOn s (a + 1) true + f2 ∧ lexV s = fin acc (lexR f2 (s.drop (goesOn s (a + 1) true)) (goesOn s (a + 1) true)))) ∨
          (c ≠ 10 ∧ c ≠ 35 ∧ nt = false ∧ spc c = true ∧ Hid (∃ f2, s.length ≤ goesOn s (a + 1) false + f2 ∧ lexV s = fin acc (lexR f2 (s.drop (goesOn s (a + 1) false)) (goesOn s (a + 1) false)))) ∨
          (c ≠ 10 ∧ c ≠ 35 ∧ nt = false ∧ spc c = false) := by
        have hf2 := hf.out
        have hl2 := hlx.out
        have g1 : ∀ x, goesOn s x false = x := fun x => by unfold goesOn; simp
        by_cases h10 : c = 10
        · subst h10
          have e : goesOn s a nt = a := by
            cases nt
            · exact g1 a
            · exact goesOn_nl hc
          rw [e] at hf2 hl2
          obtain ⟨f, rfl⟩ : ∃ f', f = f' + 1 := ⟨f - 1, by omega⟩
          rw [lexR_sp hc (by decide)] at hl2
          exact .inl ⟨rfl, Lib.hid ⟨f, by rw [g1]; omega, by rw [g1]; exact hl2⟩⟩
        · have hnl : notNl c.toNat = true := by
            unfold notNl
            simp only [Bool.not_eq_true', beq_eq_false_iff_ne]
            intro h; exact h10 (by rw [← UInt8.toNat_inj]; exact h)
          cases nt with
          | true => exact .inr (.inl ⟨h10, .inr rfl, Lib.hid ⟨f, by rw [goesOn_in hc hnl]; exact hf2, by rw [goesOn_in hc hnl]; exact hl2⟩⟩)
          | false =>
            rw [g1] at hf2 hl2
            by_cases h35 : c = 35
            · subst h35
              obtain ⟨f, rfl⟩ : ∃ f', f = f' + 1 := ⟨f - 1, by omega⟩
              rw [lexR_note hc] at hl2
              have e : goesOn s (a + 1) true = a + run notNl (s.drop a) := by rw [goesOn_in hc (by decide)]; unfold goesOn; simp
              have hp : 1 ≤ run notNl (s.drop a) := by rw [drop_at hc]; unfold run; rw [if_pos (by decide)]; omega
              exact .inr (.inl ⟨h10, .inl rfl, Lib.hid ⟨f, by rw [e]; omega, by rw [e]; exact hl2⟩⟩)
            · cases hs : spc c with
              | true =>
                obtain ⟨f, rfl⟩ : ∃ f', f = f' + 1 := ⟨f - 1, by omega⟩
                rw [lexR_sp hc hs] at hl2
                exact .inr (.inr (.inl ⟨h10, h35, rfl, rfl, Lib.hid ⟨f, by rw [g1]; omega, by rw [g1]; exact hl2⟩⟩))
              | false => exact .inr (.inr (.inr ⟨h10, h35, rfl, rfl⟩))
      rcases hpass with ⟨h10, hp⟩ | ⟨h10, hn, hp⟩ | ⟨h10, h35, rfl, hs, hp⟩ | ⟨h10, h35, rfl, hs⟩
      · rw [show (c == 10) = true by simpa using h10] at e10
        rw [show (c == 35) = false by subst h10; rfl] at e35
        rw [show (c == 32) = false by subst h10; rfl] at e32
        rw [show (c == 9) = false by subst h10; rfl] at e9
        clear hc h10 hlx hf
        go_wp2
        obtain ⟨f2, hf3, hl3⟩ := hp.out
        go_roundg (s.length - (a + 1))
        case measure => rw [hq.out]; omega
        case rel => exact ⟨a + 1, f2, false, acc, by omega, rfl, by go_num, rfl, hf3, by omega, Lib.hid hl3, ho, hb, hsz, B⟩
      · rw [show (c == 10) = false by simpa using h10] at e10
        clear hc hlx hf
        by_cases h35 : c = 35
        · rw [show (c == 35) = true by simpa using h35] at e35
          clear hn h35 h10
          go_wp2
          obtain ⟨f2, hf3, hl3⟩ := hp.out
          go_roundg (s.length - (a + 1))
          case measure => rw [hq.out]; omega
          case rel => exact ⟨a + 1, f2, true, acc, by omega, rfl, by go_num, rfl, hf3, by omega, Lib.hid hl3, ho, hb, hsz, B⟩
        · obtain rfl : nt = true := hn.resolve_left h35
          rw [show (c == 35) = false by simpa using h35] at e35
          clear hn h35 h10
          go_wp2
          obtain ⟨f2, hf3, hl3⟩ := hp.out
          go_roundg (s.length - (a + 1))
          case measure => rw [hq.out]; omega
          case rel => exact ⟨a + 1, f2, true, acc, by omega, rfl, by go_num, rfl, hf3, by omega, Lib.hid hl3, ho, hb, hsz, B⟩
      · rw [show (c == 10) = false by simpa using h10] at e10
        rw [show (c == 35) = false by simpa using h35] at e35
        have h3 := spc_cases hs
        have hx := Lib.hid (show (c == 10) = false by simpa using h10)
        clear hc hs h10 h35 hlx hf
        rcases h3 with h | ⟨h, h'⟩ | ⟨h, h', h''⟩
        · rw [h] at e32; clear e9
          go_wp2
          obtain ⟨f2, hf3, hl3⟩ := hp.out
          go_roundg (s.length - (a + 1))
          case measure => rw [hq.out]; omega
          case rel => exact ⟨a + 1, f2, false, acc, by omega, rfl, by go_num, rfl, hf3, by omega, Lib.hid hl3, ho, hb, hsz, B⟩
        · have := hx.out; rw [h'] at this; cases this
        · rw [h] at e32; rw [h''] at e9
          go_wp2
          obtain ⟨f2, hf3, hl3⟩ := hp.out
          go_roundg (s.length - (a + 1))
          case measure => rw [hq.out]; omega
          case rel => exact ⟨a + 1, f2, false, acc, by omega, rfl, by go_num, rfl, hf3, by omega, Lib.hid hl3, ho, hb, hsz, B⟩
      · obtain ⟨n1, n2, n3⟩ := spc_no hs
        rw [n1] at e32
        rw [n2] at e10
        rw [n3] at e9
        rw [show (c == 35) = false by simpa using h35] at e35
        have g1 : goesOn s a false = a := by unfold goesOn; simp
        have hf2 := hf.out
        have hl2 := hlx.out
        rw [g1] at hf2 hl2
        obtain ⟨f, rfl⟩ : ∃ f', f = f' + 1 := ⟨f - 1, by omega⟩
        replace hl2 := Lib.hid hl2
        have hpos : s.drop a ≠ [] := by rw [drop_at hc]; simp
        have hol := Lib.hid (fun h => one_len hpos h)
        have htk := Lib.hid (fun h => lexR_tok (f := f) hc hs h35 h)
        have hbd := Lib.hid (fun h => lexR_bad (f := f) hc hs h35 h)
        have hld : (s.drop a).length = s.length - a := by simp
        have cO := Lib.hid (fun W => One_any s a W hl hlt)
        unfold ROnePost at cO
        clear n1 n2 n3 g1 hc hs h35 h10 hpos hlx hf
        go_wp2_with fail
        refine (cO.out _).mono ?_
        rintro e1 w1 ⟨⟨⟨t1, t2, t3, t4⟩, tn, te⟩, rfl, hro, hb1⟩
        unfold ROk at hro
        dsimp only at hro
        obtain ⟨hro1, hro2⟩ := hro
        unfold retOne
        dsimp only
        have B1 := B.below hb1 (by omega)
        have z1 := hb1.size
        have ho2 := Lib.hid (own_keep ho hb1 (Nat.le_refl _))
        have hbw := hb.trans (hb1.mono (by omega))
        have k0 : w1.cell? ⟨w.heap.size, 0, none⟩ = some (.int .i64 0) := B1.cell 0
        have k1 : w1.cell? ⟨w.heap.size, 1, none⟩ = some (.int .i64 0) := B1.cell 1
        have f0 : ∀ j, w1.frozen? ⟨w.heap.size, j, none⟩ = false := fun j => B1.frozen j
        clear B hb hb1 ho cO
        by_cases hte : te = 0
        · subst hte
          obtain ⟨htk1, htn⟩ := hro2 hro1.symm
          have htk2 := htk.out hro1.symm
          obtain ⟨hn1, hn2⟩ := hol.out hro1.symm
          rw [← htk1] at htk2
          obtain ⟨n, hn⟩ : ∃ n : Nat, (one (s.drop a)).2.1 = n := ⟨(one (s.drop a)).2.1.toNat, by omega⟩
          rw [hn] at htk2 hn1 hn2 htn
          rw [Int.toNat_natCast] at htk2
          have ht3 : t3 = (a : Int) := by have := congrArg (fun t : Tok => t.2.2.1) htk1; exact this
          subst ht3 htn
          replace htk2 := Lib.hid htk2
          clear hbd htk hol hro1 hro2 htk1 hn
          have hnew := Lib.hid (show ∀ u ∈ (#[.int .i64 t1, .int .i64 t2, .int .i64 (a : Int), strV t4] : Array Value).toList, u.oneCell' = true from fun u hu => by simp at hu; rcases hu with rfl | rfl | rfl | rfl <;> rfl)
          have hz1 : w.heap.size + 1 ≤ w1.heap.size := by omega
          go_wp2_with (at_builtin; refine wpList_append_lit el_tok rfl (.tmp 53) (.tmp 55) rfl (w.heap.size + 1) u4 acc.length (toksC acc) (ho2.out.alloc _) #[.int .i64 t1, .int .i64 t2, .int .i64 (a : Int), strV t4] 75 rfl (by rw [World.size_alloc]; rfl) rfl hnew.out (by simp only [maxLen]; omega) (by omega) (Nat.le_trans hz1 ((Below.refl w1.heap.size w1).alloc (Nat.le_refl _) _).size) ?_; intro v' w5 hown5 hb5 hs5)
          have hm : Below (w.heap.size + 1) w1 w5 := ((Below.refl _ _).alloc hz1 _).trans hb5
          have hz5 := hb5.size
          simp only [World.size_alloc] at hz5
          have g2 : goesOn s (a + n) false = a + n := by unfold goesOn; simp
          go_roundg (s.length - (a + n))
          case measure => rw [hq.out]; omega
          case rel => exact ⟨a + n, f, false, acc ++ [(t1, t2, (a : Int), t4)], by omega, rfl, by go_num, rfl, by rw [g2]; omega, by simp; omega, Lib.hid (by rw [g2, hl2.out, htk2.out, fin_fin]), by rw [List.length_append, ← toksC_snoc]; exact hown5, hbw.trans (hm.mono (by omega)), by omega, B1.below hm (by omega)⟩
        · have hbd2 := Lib.hid (hbd.out (by rw [← hro1]; exact hte))
          have gte : (te != 0) = true := by simpa using hte
          replace hro1 := Lib.hid hro1
          clear htk hbd hol hro2
          go_wp2
          have e := hl2.out
          rw [hbd2.out, ← hro1.out] at e
          simp only [fin] at e
          rw [if_neg hte] at e
          refine bodyPost_ret (v := .tuple #[.slice none 0 0, .agg #[.int .i64 te, .int .i64 (a : Int)]]) ?_ rfl (by rw [e]; exact ⟨_, rfl, (((hbw.alloc (by omega) _).setCell (by first | omega | (simp; done) | (simp; omega)) _).setCell (by first | omega | (simp; done) | (simp; omega)) _), World.ownsRow_nil _ _ _ _⟩)
          have hw : w.heap.size < w1.heap.size := by omega
          simp [results, Try.results41, go_sem, k0, k1, hw]
    · obtain rfl : a = s.length := by omega
      have e := hlx.out
      rw [lexR_end (goesOn_le _ _ _)] at e
      have k0 : wr.cell? ⟨w.heap.size, 0, none⟩ = some (.int .i64 0) := B.cell 0
      have k1 : wr.cell? ⟨w.heap.size, 1, none⟩ = some (.int .i64 0) := B.cell 1
      have f0 : ∀ j, wr.frozen? ⟨w.heap.size, j, none⟩ = false := fun j => B.frozen j
      replace e := Lib.hid e
      go_wp2
      have e := e.out
      refine bodyPost_ret (v := .tuple #[u4, .agg #[.int .i64 0, .int .i64 0]]) ?_ rfl (by rw [e]; simp only [fin, if_true, List.append_nil]; exact ⟨_, rfl, (hb.setCell (by first | omega | (simp; done) | (simp; omega)) _).setCell (by first | omega | (simp; done) | (simp; omega)) _, own_mono (own_far (own_far ho (by first | omega | (simp; done) | (simp; omega)) _) (by first | omega | (simp; done) | (simp; omega)) _) (by omega)⟩)
      simp [results, Try.results41, go_sem, k0, k1]

theorem RLex_any (s : List UInt8) (w : World) (hl : s.length ≤ 9223372036854775807) : Calls Try.prog 41 #[strV s] w (LexPost s w) := by
  by_cases h : s.length ≤ 6000
  · exact RLex_fits s w h
  · exact RLex_much s w (by omega) hl

end Lx
end Go.Proofs.Ytfhedopfjgjffaa
