/- The walk of slotref10.Tuples. -/
import Derived.Test.YtbaomgdkoglebaaMatT
import Derived.Test.YtbaomgdkoglebaaApp
import Derived.Laws.AppendOwnNone
import Derived.Laws.OwnMore
namespace Go.Proofs.Ytbaomgdkoglebaa
open Go.RowKit
namespace Mat
open Sl

theorem elInts : El Try.prog 38 3 1 8 := El.mk' Try.underlying38 (by kernel_rfl) (by decide)
theorem elInts2 : El Try.prog 34 38 1 24 := El.mk' Try.underlying34 (by kernel_rfl) (by decide)

/-- a []bool -/
def BoolsV (w : World) (B : Nat) (v : Value) (l : List Bool) : Prop := Reads B v l fun b o i n => w.cell? ⟨b, o + i, none⟩ = some (.bool n)
theorem BoolsV.below {w w' : World} {B B' B'' : Nat} {v : Value} {l : List Bool} (h : BoolsV w B v l) (hb : Below B' w w') (hB : B ≤ B') (hB2 : B ≤ B'') : BoolsV w' B'' v l :=
  Reads.mono h hB2 fun b o i n hlt _ h1 => (hb.cell (p := ⟨b, _, none⟩) (by simp; omega)).trans h1

/-- values that lie side by side are appended to an own row -/
theorem wpList_append_vals {P : Program} {W : World} {ops : Array Oper} {rest : List Oper} {o : Oper} {a : Act} {Q : Exit → Act → World → Prop} {t e bytes : Nat} (hE : El P t e 1 bytes) (hgd : o.guard = none) (s x : Operand)
    (ho : o.op = .call { callee := .builtin .append, args := #[s, x], argTypes := #[t, t] })
    (base : Nat) (v : Value) (n : Nat) (xs : List Value) (hown : W.ownsRow base e 1 v n xs) (news : List Value) (u : Value) (hs : a.eval s = v) (hx : a.eval x = u)
    (hu : ∃ A cap, u = .slice A news.length cap ∧ (A = none → cap = 0) ∧ ∀ (j : Nat) (y : Value), news[j]? = some y → ∃ b o, A = some ⟨b, o, none⟩ ∧ W.cell? ⟨b, o + j, none⟩ = some y) (h1 : ∀ u ∈ news, u.oneCell' = true)
    (h63 : n + news.length ≤ maxLen) (hbytes : (n + news.length) * bytes ≤ 140737488355328) (hbase : base ≤ W.heap.size)
    (h : ∀ v' w', w'.ownsRow base e 1 v' (n + news.length) (xs ++ news) → W.grownBy w' v.ownBlock → wpList P ops Q rest (a.put o.dst v') w') :
    wpList P ops Q (o :: rest) a W := by
  obtain ⟨i, z, hi, hz, hsi, hby, hzs⟩ := hE.inf
  obtain ⟨A, cap, rfl, hcap, hc⟩ := hu
  cases A with
  | none =>
    have hn : news = [] := by
      cases news with
      | nil => rfl
      | cons y ys => obtain ⟨b, o, e, _⟩ := hc 0 y rfl; cases e
    subst hn
    obtain rfl := hcap rfl
    exact wpList_append_own_none hgd s x t ho base e i 1 hE.sl hi v n xs hs hown hx (h v W (by simpa using hown) ⟨rfl, rfl, rfl, Nat.le_refl _, fun _ _ _ => rfl⟩)
  | some ad =>
    refine wpList_append_own _ hgd s x t ho base e i z 1 bytes hE.sl hi hz hsi hby hzs hE.pos v n xs hs hown ad news.length cap news hx (by simp) (fun j y hy => ?_) h1 h63 hbytes hbase ?_
    · obtain ⟨b, o, e, h2⟩ := hc j y hy
      cases e
      rw [Addr.add_lit]
      exact h2
    · intro v' w' h2 h3 _
      exact h v' w' h2 h3

theorem own_types {w : World} {b1 b2 e1 e2 s1 s2 n1 n2 : Nat} {v1 v2 : Value} {xs1 xs2 : List Value} (h1 : w.ownsRow b1 e1 s1 v1 n1 xs1) (h2 : w.ownsRow b2 e2 s2 v2 n2 xs2) (hne : e1 ≠ e2) : v1.ownBlock = none ∨ v1.ownBlock ≠ v2.ownBlock := by
  rcases h1.2 with ⟨rfl, _⟩ | ⟨g, cap, cur, rfl, _, h3, _⟩
  · exact .inl rfl
  · rcases h2.2 with ⟨rfl, _⟩ | ⟨g', cap', cur', rfl, _, h4, _⟩
    · exact .inr (by simp [Value.ownBlock])
    · refine .inr fun h => ?_
      obtain rfl : g = g' := by simpa [Value.ownBlock] using h
      rw [h3] at h4
      simp only [Option.some.injEq, Obj.cells.injEq] at h4
      exact hne h4.2.1

/-- an own row of slices, each of which is an own row of ints -/
def NextV (w : World) (base : Nat) (v : Value) (L : List (List Int)) : Prop :=
  ∃ vs : List Value, w.ownsRow base 38 1 v L.length vs ∧ ∀ (i : Nat) (u : Value), vs[i]? = some u → ∀ x, L[i]? = some x → w.ownsRow base 3 1 u x.length (x.map (Value.int .i64))
theorem NextV.nil (w : World) (base : Nat) : NextV w base (.slice none 0 0) [] := ⟨[], World.ownsRow_nil _ _ _ _, fun i u h => by simp at h⟩
theorem NextV.below {w w' : World} {base : Nat} {v : Value} {L : List (List Int)} (h : NextV w base v L) {B : Nat} (hb : Below B w w') (hB : w.heap.size ≤ B) : NextV w' base v L := by
  obtain ⟨vs, h1, h2⟩ := h
  exact ⟨vs, own_below h1 hb hB, fun i u hu x hx => own_below (h2 i u hu x hx) hb hB⟩
theorem NextV.snoc {W w' : World} {base : Nat} {v v' u : Value} {L : List (List Int)} {x : List Int} {vs : List Value} (h1 : W.ownsRow base 38 1 v L.length vs) (h2 : ∀ (i : Nat) (u : Value), vs[i]? = some u → ∀ x, L[i]? = some x → W.ownsRow base 3 1 u x.length (x.map (Value.int .i64)))
    (hu : W.ownsRow base 3 1 u x.length (x.map (Value.int .i64))) (h3 : w'.ownsRow base 38 1 v' (L.length + 1) (vs ++ [u])) (hg : W.grownBy w' v.ownBlock) : NextV w' base v' (L ++ [x]) := by
  refine ⟨vs ++ [u], by simpa using h3, fun i y hy z hz => ?_⟩
  have hl : vs.length = L.length := by have := h1.1; simpa using this
  have keep : ∀ y z, W.ownsRow base 3 1 y (List.length z) (z.map (Value.int .i64)) → w'.ownsRow base 3 1 y z.length (z.map (Value.int .i64)) := fun y z h => h.kept hg (own_types h h1 (by decide))
  by_cases hi : i < L.length
  · rw [List.getElem?_append_left (by omega)] at hy hz
    exact keep _ _ (h2 i y hy z hz)
  · rw [List.getElem?_append_right (by omega)] at hy hz
    rw [hl] at hy
    cases hk : i - L.length with
    | zero => rw [hk] at hy hz; simp at hy hz; subst hy; subst hz; exact keep _ _ hu
    | succ k => rw [hk] at hy; simp at hy
/-- slices of ints, each an own row behind a base -/
def Ints2C (w : World) (B base : Nat) (v : Value) (l : List (List Int)) : Prop := Reads B v l fun b o i x => ∃ u, w.cell? ⟨b, o + i, none⟩ = some u ∧ w.ownsRow base 3 1 u x.length (x.map (Value.int .i64))
theorem own_nil0 {w : World} {base e k n : Nat} {v : Value} {xs : List Value} (h : w.ownsRow base e k v n xs) : ∀ m c, v = .slice none m c → c = 0 := fun m c e => by
  subst e
  rcases h.2 with ⟨h, _⟩ | ⟨g, cap, cur, h, _⟩
  · cases h; rfl
  · cases h
theorem NextV.reads {w : World} {base : Nat} {v : Value} {L : List (List Int)} (h : NextV w base v L) : Ints2C w w.heap.size base v L := by
  obtain ⟨vs, h1, h2⟩ := h
  have hl : vs.length = L.length := by have := h1.1; simpa using this
  rcases h1.2 with ⟨rfl, h0⟩ | ⟨g, cap, cur, rfl, _, hh, hcap, hcm, _, ht⟩
  · exact ⟨none, 0, by rw [h0], by omega, fun i x hx => by have := (List.getElem?_eq_some_iff.1 hx).1; omega⟩
  · refine ⟨_, cap, rfl, own_max h1, fun i x hx => ⟨g, 0, rfl, (Array.getElem?_eq_some_iff.1 hh).1, ?_⟩⟩
    have hi := (List.getElem?_eq_some_iff.1 hx).1
    refine ⟨vs[i]'(by omega), ?_, h2 i _ (List.getElem?_eq_getElem (by omega : i < vs.length)) x hx⟩
    have := h1.cells (g := g) rfl i _ (List.getElem?_eq_getElem (by omega : i < vs.length))
    rwa [Addr.add_lit] at this
theorem Ints2C.low {w : World} {B base base' : Nat} {v : Value} {l : List (List Int)} (h : Ints2C w B base v l) (hb : base' ≤ base) : Ints2C w B base' v l := Reads.mono h (Nat.le_refl _) fun _ _ _ _ _ _ ⟨u, h1, h2⟩ => ⟨u, h1, own_mono h2 hb⟩

theorem moreT_take {free : Int → Bool} {p t : List Int} {j : Nat} {r : Int} (h : p[j]? = some r) : moreT free (p.take (j + 1)) t = moreT free (p.take j) t ++ if (!t.contains r && free r) = true then [t ++ [r]] else [] := by
  unfold moreT
  rw [List.take_add_one, h, List.filter_append, List.map_append]
  congr 1
  rw [Option.toList_some, List.filter_cons, List.filter_nil]
  cases hb : (!t.contains r && free r) <;> simp
theorem moreT_len {free : Int → Bool} (p t : List Int) : (moreT free p t).length ≤ p.length := by
  unfold moreT
  rw [List.length_map]
  exact List.length_filter_le _ _
theorem moreT_mem {free : Int → Bool} {p t x : List Int} (h : x ∈ moreT free p t) : x.length = t.length + 1 := by
  unfold moreT at h
  obtain ⟨r, _, rfl⟩ := List.mem_map.1 h
  simp
theorem stepT_len {free : Int → Bool} {p : List Int} (hp : p.length ≤ 8) : ∀ L : List (List Int), (stepT free L p).length ≤ 8 * L.length
  | [] => by simp [stepT]
  | t :: L => by
    have h1 := stepT_len (free := free) hp L
    have h2 := moreT_len (free := free) p t
    unfold stepT at h1 ⊢
    rw [List.flatMap_cons, List.length_append, List.length_cons]
    omega
theorem stepT_take {free : Int → Bool} {p t : List Int} {L : List (List Int)} {i : Nat} (h : L[i]? = some t) : stepT free (L.take (i + 1)) p = stepT free (L.take i) p ++ moreT free p t := by
  unfold stepT
  rw [List.take_add_one, h, List.flatMap_append]
  simp
theorem stepT_mem {free : Int → Bool} {p x : List Int} {L : List (List Int)} {n : Nat} (hL : ∀ t ∈ L, t.length = n) (h : x ∈ stepT free L p) : x.length = n + 1 := by
  unfold stepT at h
  obtain ⟨t, ht, hx⟩ := List.mem_flatMap.1 h
  rw [moreT_mem hx, hL t ht]
theorem tuplesL_at {free : Int → Bool} {ps out : List (List Int)} {j : Nat} {p : List Int} (h : ps[j]? = some p) : tuplesL free (ps.drop j) out = tuplesL free (ps.drop (j + 1)) (stepT free out p) := by
  obtain ⟨hi, rfl⟩ := List.getElem?_eq_some_iff.1 h
  rw [List.drop_eq_getElem_cons hi, tuplesL]
theorem take_has {t : List Int} {j : Nat} {x r : Int} (h : t[j]? = some x) : (t.take (j + 1)).contains r = ((t.take j).contains r || x == r) := by
  rw [List.take_add_one, h]
  simp only [List.contains_append, Option.toList_some, List.contains_cons, List.contains_nil, Bool.or_false]
  rw [show (r == x) = (x == r) from BEq.comm]
theorem pow8 {j : Nat} (h : j ≤ 4) : 8 ^ j ≤ 4096 := Nat.pow_le_pow_right (by omega : 0 < 8) h

/-- a literal of one value -/
theorem lit_cells (W : World) (te : TypeId) (u : Value) : ∃ A cap, Value.slice (some ⟨W.heap.size, 0, none⟩) 1 1 = .slice A [u].length cap ∧ (A = none → cap = 0) ∧
    ∀ (j : Nat) (y : Value), [u][j]? = some y → ∃ b o, A = some ⟨b, o, none⟩ ∧ (W.alloc (.cells #[u] te)).cell? ⟨b, o + j, none⟩ = some y :=
by
  refine ⟨some ⟨W.heap.size, 0, none⟩, 1, rfl, (fun h => by cases h), fun j y hy => ⟨W.heap.size, 0, rfl, ?_⟩⟩
  have := (Blk.new W te #[u]).cell j
  rw [Nat.zero_add, this]
  simpa using hy

/-- a literal of one value, just made, is appended to an own row -/
theorem wpList_append_one {P : Program} {W : World} {ops : Array Oper} {rest : List Oper} {o : Oper} {a : Act} {Q : Exit → Act → World → Prop} {t e bytes : Nat} (hE : El P t e 1 bytes) (hgd : o.guard = none) (s x : Operand)
    (ho : o.op = .call { callee := .builtin .append, args := #[s, x], argTypes := #[t, t] })
    (base : Nat) (v : Value) (n : Nat) (xs : List Value) (hown : W.ownsRow base e 1 v n xs) (u : Value) (te : TypeId) (hs : a.eval s = v) (hx : a.eval x = .slice (some ⟨W.heap.size, 0, none⟩) 1 1)
    (h1 : u.oneCell' = true) (h63 : n + 1 ≤ maxLen) (hbytes : (n + 1) * bytes ≤ 140737488355328) (hbase : base ≤ W.heap.size)
    (h : ∀ v' w', w'.ownsRow base e 1 v' (n + 1) (xs ++ [u]) → Below base W w' → (W.alloc (.cells #[u] te)).grownBy w' v.ownBlock → wpList P ops Q rest (a.put o.dst v') w') :
    wpList P ops Q (o :: rest) a (W.alloc (.cells #[u] te)) := by
  refine wpList_append_vals hE hgd s x ho base v n xs (hown.alloc _) [u] _ hs hx (lit_cells W te u) (fun y hy => by simp at hy; subst hy; exact h1) (by simpa using h63) (by simpa using hbytes) (by simp; omega) fun v' w' h2 h3 => ?_
  exact h v' w' (by simpa using h2) (((Below.refl _ _).alloc hbase _).trans (below_own (by simp; omega) (hown.alloc _) h3)) h3

set_option maxRecDepth 100000 in
set_option maxHeartbeats 8000000 in
theorem Tuples_any (rolesV freeV : Value) (roles : List (List Int)) (fl : List Bool) (w : World) (hr : Ints2V w w.heap.size rolesV roles) (hf : BoolsV w w.heap.size freeV fl) (h4 : roles.length ≤ 4) (h8 : ∀ p ∈ roles, p.length ≤ 8)
    (hb : ∀ p ∈ roles, ∀ r ∈ p, 0 ≤ r ∧ r < fl.length) :
    Calls Try.prog 36 #[rolesV, freeV] w fun e w' => ∃ v, e = .returned v ∧ Below w.heap.size w w' ∧ Ints2C w' w'.heap.size w.heap.size v (tuplesL (fun r => fl.getD r.toNat false) roles [[]]) := by
  obtain ⟨F, hF⟩ : ∃ F : Int → Bool, F = fun r => fl.getD r.toNat false := ⟨_, rfl⟩
  rw [← hF]
  obtain ⟨A, cap, rfl, hlen, hc⟩ := hr
  obtain ⟨A1, cap1, rfl, hlen1, hc1⟩ := hf
  have hfr : ∀ p ∈ roles, ∀ r ∈ p, ∃ n : Nat, r = n ∧ n < fl.length ∧ fl[n]? = some (F r) := fun p hp r hr => by
    obtain ⟨h0, h1⟩ := hb p hp r hr
    refine ⟨r.toNat, by omega, by omega, ?_⟩
    rw [hF]
    have : r.toNat < fl.length := by omega
    simp [List.getD, this]
  replace hc := Lib.hid hc
  replace hc1 := Lib.hid hc1
  replace hfr := Lib.hid hfr
  replace h8 := Lib.hid h8
  clear hb hF
  go_enter Try.func36, Try.ntmps36
  go_wp2
  go_loopg [5, 19] roles.length (fun q out k wr => ∃ (j : Nat) (L : List (List Int)), j ≤ roles.length ∧ q = roles.length - j ∧ k = .int .i64 j ∧ Hid (Ints2C wr wr.heap.size w.heap.size out L) ∧ Hid (tuplesL F (roles.drop j) L = tuplesL F roles [[]]) ∧
    Hid (∀ t ∈ L, t.length = j) ∧ Hid (L.length ≤ 8 ^ j) ∧ Below w.heap.size w wr)
  case atStart =>
    refine ⟨0, [[]], by omega, rfl, rfl, Lib.hid ?_, Lib.hid rfl, Lib.hid (by simp), Lib.hid (by simp), (by repeat (first | exact Below.refl _ _ | assumption | refine Below.n _ ?_ (by first | omega | (simp; done) | (simp; omega)) | refine Below.alloc ?_ (by first | omega | (simp; done) | (simp; omega)) _ | refine Below.setCell ?_ (by first | omega | (simp; done) | (simp; omega)) _ | refine Below.drew ?_ | refine Below.setRow ?_ (by first | omega | (simp; done) | (simp; omega)) _ | refine Below.drewN ?_ _))⟩
    refine ⟨_, _, rfl, by simp, fun i x hx => ⟨w.heap.size, 0, rfl, by simp, .slice none 0 0, ?_, ?_⟩⟩
    · have B := (Blk.new w 38 #[.slice none 0 0]).cell i
      have hi := (List.getElem?_eq_some_iff.1 hx).1
      simp at hi
      subst hi
      simp [B]
    · have hi := (List.getElem?_eq_some_iff.1 hx).1
      simp at hi
      subst hi
      simp at hx
      subst hx
      exact World.ownsRow_nil _ _ _ _
  case round =>
    obtain ⟨j, L, hj, hq, rfl, hL, ht, hn, h8j, hbw⟩ := hrel
    replace hq := Lib.hid hq
    obtain ⟨wo, hwo⟩ : ∃ wo, wo = wr := ⟨_, rfl⟩
    subst hwo
    by_cases hlt : j < roles.length
    · obtain ⟨p, hp⟩ : ∃ p, roles[j]? = some p := ⟨_, List.getElem?_eq_getElem hlt⟩
      obtain ⟨b, o, rfl, hblt, u, c0, hu⟩ := hc.out j p hp
      replace c0 := (hbw.cell (p := ⟨b, _, none⟩) hblt).trans c0
      have hpm := List.mem_of_getElem? hp
      have hp8 := h8.out p hpm
      have hpr := Lib.hid (hfr.out p hpm)
      have hst := Lib.hid (tuplesL_at (free := F) (out := L) hp)
      clear hp hpm
      have hu' := hu.below hbw (Nat.le_refl _) hbw.size
      clear hu
      obtain ⟨A2, cap2, rfl, hlen2, hc2⟩ := hu'
      replace hc2 := Lib.hid hc2
      obtain ⟨A3, cap3, rfl, hlen3, hc3⟩ := hL.out
      replace hc3 := Lib.hid hc3
      clear hL
      have hL4 : L.length ≤ 4096 := Nat.le_trans h8j.out (pow8 (by omega))
      go_wp2
      go_loopg [8, 25] L.length (fun q2 nx k2 wq => ∃ (i : Nat) (L2 : List (List Int)), i ≤ L.length ∧ q2 = L.length - i ∧ k2 = .int .i64 i ∧ Hid (NextV wq wo.heap.size nx L2) ∧ Hid (L2 = stepT F (L.take i) p) ∧ Below wo.heap.size wo wq)
      case atStart => exact ⟨0, [], by omega, rfl, rfl, Lib.hid (NextV.nil _ _), Lib.hid (by simp [stepT]), Below.refl _ _⟩
      case round =>
        obtain ⟨i, L2, hi, hq2, rfl, hN2, hL2, hb2⟩ := hrel
        replace hq2 := Lib.hid hq2
        obtain ⟨wa, hwa⟩ : ∃ wa, wa = wr := ⟨_, rfl⟩
        subst hwa
        by_cases hlt2 : i < L.length
        · obtain ⟨t, htt⟩ : ∃ t, L[i]? = some t := ⟨_, List.getElem?_eq_getElem hlt2⟩
          obtain ⟨b3, o3, rfl, hb3, u3, c3, hu3o⟩ := hc3.out i t htt
          have hu3 := IntsV.of_own hu3o (own_max hu3o) (Nat.le_refl _)
          have hu3n := own_nil0 hu3o
          clear hu3o
          replace c3 := (hb2.cell (p := ⟨b3, _, none⟩) hb3).trans c3
          have htl := Lib.hid (hn.out t (List.mem_of_getElem? htt))
          have hstep := Lib.hid (stepT_take (free := F) (p := p) htt)
          clear htt
          obtain ⟨A4, cap4, rfl, hlen4, hc4⟩ := hu3
          replace hc4 := Lib.hid hc4
          replace hu3n := Lib.hid (hu3n t.length cap4)
          go_wp2
          go_loopg [8, 31] p.length (fun q3 nx k3 wq => ∃ (m : Nat) (L3 : List (List Int)), m ≤ p.length ∧ q3 = p.length - m ∧ k3 = .int .i64 m ∧ Hid (NextV wq wo.heap.size nx L3) ∧ Hid (L3 = stepT F (L.take i) p ++ moreT F (p.take m) t) ∧ Below wo.heap.size wo wq)
          case atStart => exact ⟨0, L2, by omega, rfl, rfl, hN2, Lib.hid (by rw [hL2.out]; simp [moreT]), hb2⟩
          case round =>
            obtain ⟨m, L3, hm, hq3, rfl, hN3, hL3, hb3w⟩ := hrel
            replace hq3 := Lib.hid hq3
            clear hN2 hL2 hb2 c3
            obtain ⟨wb, hwb⟩ : ∃ wb, wb = wr := ⟨_, rfl⟩
            subst hwb
            by_cases hlt3 : m < p.length
            · obtain ⟨r, hr⟩ : ∃ r, p[m]? = some r := ⟨_, List.getElem?_eq_getElem hlt3⟩
              obtain ⟨b5, o5, rfl, hb5, c5⟩ := hc2.out m r hr
              replace c5 := (hb3w.cell (p := ⟨b5, _, none⟩) hb5).trans c5
              obtain ⟨n, rfl, hnl, hnf⟩ := hpr.out r (List.mem_of_getElem? hr)
              have hmt := Lib.hid (moreT_take (free := F) (t := t) hr)
              obtain ⟨b6, o6, rfl, hb6, c6⟩ := hc1.out n _ hnf
              replace c6 := (hb3w.cell (p := ⟨b6, _, none⟩) (by have := hbw.size; simp; omega)).trans ((hbw.cell (p := ⟨b6, _, none⟩) hb6).trans c6)
              clear hr hnf
              go_wp2
              go_loopg [13, 37] t.length (fun q4 tw k4 wq => ∃ (s : Nat) (tb : Bool), s ≤ t.length ∧ q4 = t.length - s ∧ k4 = .int .i64 s ∧ tw = .bool tb ∧ Hid (tb = (t.take s).contains (n : Int)) ∧ wq = wb)
              case atStart => exact ⟨0, false, by omega, rfl, rfl, rfl, Lib.hid (by simp), rfl⟩
              case round =>
                obtain ⟨s, tb, hs, hq4, rfl, rfl, htb, rfl⟩ := hrel
                replace hq4 := Lib.hid hq4
                by_cases hlt4 : s < t.length
                · obtain ⟨x, hx⟩ : ∃ x, t[s]? = some x := ⟨_, List.getElem?_eq_getElem hlt4⟩
                  obtain ⟨b7, o7, rfl, hb7, c7⟩ := hc4.out s x hx
                  replace c7 := (hb3w.cell (p := ⟨b7, _, none⟩) hb7).trans c7
                  have hth := Lib.hid (take_has (r := (n : Int)) hx)
                  clear hx
                  cases tb with
                  | true =>
                    go_wp2
                    go_roundg (t.length - (s + 1))
                    case measure => rw [hq4.out]; omega
                    case rel => exact ⟨s + 1, true, by omega, rfl, by go_num, rfl, Lib.hid (by rw [hth.out, ← htb.out]; rfl), rfl⟩
                  | false =>
                    go_wp2
                    go_roundg (t.length - (s + 1))
                    case measure => rw [hq4.out]; omega
                    case rel => exact ⟨s + 1, _, by omega, rfl, by go_num, rfl, Lib.hid (by rw [hth.out, ← htb.out, Bool.false_or]), rfl⟩
                · obtain rfl : s = t.length := by omega
                  have htb2 := Lib.hid (show tb = t.contains (n : Int) from by have := htb.out; rwa [List.take_length] at this)
                  obtain ⟨fb, hfb⟩ : ∃ fb, fb = F n := ⟨_, rfl⟩
                  rw [← hfb] at c6
                  replace hfb := Lib.hid hfb
                  have hu4 := Lib.hid (show ∃ A cap, Value.slice A4 t.length cap4 = .slice A (t.map (Value.int .i64)).length cap ∧ (A = none → cap = 0) ∧ ∀ (j : Nat) (y : Value), (t.map (Value.int .i64))[j]? = some y → ∃ b o, A = some ⟨b, o, none⟩ ∧ (wr.alloc (.cells #[] 3)).cell? ⟨b, o + j, none⟩ = some y from
                    ⟨A4, cap4, by simp, fun h => hu3n.out (by rw [h]), fun j y hy => by
                      rw [List.getElem?_map] at hy
                      obtain ⟨x, hx, rfl⟩ := Option.map_eq_some_iff.1 hy
                      obtain ⟨b7, o7, e, hb7, c7⟩ := hc4.out j x hx
                      exact ⟨b7, o7, e, by rw [cell_alloc_ite, if_pos (by have := hb3w.size; simp; omega)]; exact (hb3w.cell (p := ⟨b7, _, none⟩) hb7).trans c7⟩⟩)
                  clear htb hc4
                  cases tb with
                  | true =>
                    go_wp2
                    go_roundg (p.length - (m + 1))
                    case measure => rw [hq3.out]; omega
                    case rel => exact ⟨m + 1, L3, by omega, rfl, by go_num, hN3, Lib.hid (by rw [hL3.out, hmt.out, ← htb2.out]; simp), hb3w⟩
                  | false =>
                    cases fb with
                    | false =>
                      go_wp2
                      go_roundg (p.length - (m + 1))
                      case measure => rw [hq3.out]; omega
                      case rel => exact ⟨m + 1, L3, by omega, rfl, by go_num, hN3, Lib.hid (by rw [hL3.out, hmt.out, ← hfb.out]; simp), hb3w⟩
                    | true =>
                      obtain ⟨vs, hn1, hn2⟩ := hN3.out
                      have hl3 : L3.length ≤ 40000 := by
                        have h1 := stepT_len (free := F) hp8 (L.take i)
                        have h2 := moreT_len (free := F) (p.take m) t
                        rw [List.length_take] at h1 h2
                        rw [hL3.out, List.length_append]
                        omega
                      have ht4 : t.length ≤ 4 := by rw [htl.out]; omega
                      replace hn1 := Lib.hid hn1
                      replace hn2 := Lib.hid hn2
                      have hwo := hb3w.size
                      go_wp2_with (first
                        | (at_builtin; refine wpList_append_vals elInts rfl (.tmp 57) (.tmp 58) rfl wr.heap.size (.slice (some ⟨wr.heap.size, 0, none⟩) 0 0) 0 [] (World.ownsRow_lit wr #[] 0 (Nat.le_refl _) (by simp [maxLen]) (by simp)) (t.map (Value.int .i64)) _ rfl rfl hu4.out (fun u hu => by obtain ⟨x, _, rfl⟩ := List.mem_map.1 hu; rfl) (by simp [maxLen]; omega) (by simp; omega) (by simp) ?_; intro v1 w1 ho1 hg1; have b1 := ((Below.refl wr.heap.size wr).alloc (Nat.le_refl _) (.cells #[] 3)).trans (below_own (by simp) (World.ownsRow_lit wr #[] 0 (Nat.le_refl _) (by simp [maxLen]) (by simp)) hg1); simp only [Nat.zero_add, List.nil_append, List.length_map] at ho1; replace ho1 := Lib.hid ho1; clear hg1)
                        | (at_builtin; refine wpList_append_one (W := w1) elInts rfl (.tmp 59) (.tmp 61) rfl wr.heap.size v1 t.length (t.map (Value.int .i64)) ho1.out _ _ rfl rfl rfl (by simp only [maxLen]; omega) (by omega) b1.size ?_; intro v2 w2 ho2 b2' hg2; have b2 := b1.trans b2'; obtain ⟨A8, cap8, rfl⟩ := own_slice ho2; replace ho2 := Lib.hid ho2; clear hg2 b2')
                        | (at_builtin; refine wpList_append_one (W := w2) elInts2 rfl (.tmp 56) (.tmp 63) rfl wo.heap.size _ L3.length vs (own_below hn1.out b2 (Nat.le_refl _)) _ _ rfl rfl rfl (by simp only [maxLen]; omega) (by omega) (Nat.le_trans hwo b2.size) ?_; intro v3 w3 ho3 b3' hg3))
                      go_roundg (p.length - (m + 1))
                      case measure => rw [hq3.out]; omega
                      case rel =>
                        refine ⟨m + 1, L3 ++ [t ++ [(n : Int)]], by omega, rfl, by go_num, Lib.hid ?_, Lib.hid ?_, hb3w.trans ((b2.mono hwo).trans b3')⟩
                        · refine NextV.snoc (W := w2.alloc (.cells #[.slice A8 (t.length + 1) cap8] 38)) (own_below hn1.out (b2.alloc b2.size _) (Nat.le_refl _)) (fun i u hu x hx => own_below (hn2.out i u hu x hx) (b2.alloc b2.size _) (Nat.le_refl _)) ?_ ho3 hg3
                          have := (own_mono ho2.out hwo).alloc (.cells #[.slice A8 (t.length + 1) cap8] 38)
                          simpa using this
                        · rw [hmt.out, ← htb2.out, ← hfb.out, hL3.out]
                          simp
            · obtain rfl : m = p.length := by omega
              go_wp2
              go_roundg (L.length - (i + 1))
              case measure => rw [hq2.out]; omega
              case rel => exact ⟨i + 1, L3, by omega, rfl, by go_num, hN3, Lib.hid (by rw [hL3.out, hstep.out, List.take_length]), hb3w⟩
        · obtain rfl : i = L.length := by omega
          have hst2 := Lib.hid (show L2 = stepT F L p from by rw [hL2.out, List.take_length])
          go_wp2
          go_roundg (roles.length - (j + 1))
          case measure => rw [hq.out]; omega
          case rel =>
            refine ⟨j + 1, L2, by omega, rfl, by go_num, Lib.hid (hN2.out.reads.low hbw.size), Lib.hid (by rw [hst2.out, ← hst.out]; exact ht.out), Lib.hid (fun x hx => stepT_mem hn.out (by rw [hst2.out] at hx; exact hx)), Lib.hid ?_, hbw.trans (hb2.mono hbw.size)⟩
            have h1 := stepT_len (free := F) hp8 L
            have h2 := h8j.out
            rw [hst2.out, Nat.pow_succ]
            omega
    · obtain rfl : j = roles.length := by omega
      go_wp2
      go_ret
      refine ⟨_, rfl, hbw, ?_⟩
      have := ht.out
      rw [List.drop_length, tuplesL] at this
      rw [← this]
      exact hL.out

end Mat
end Go.Proofs.Ytbaomgdkoglebaa
