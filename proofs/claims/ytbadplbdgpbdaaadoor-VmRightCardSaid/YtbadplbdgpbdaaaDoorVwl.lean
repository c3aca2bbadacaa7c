/- What is compiled is right: slotlaw8.VmWell. -/
import Derived.Test.YtbadplbdgpbdaaaDoorCcw
import Derived.Test.YtbadplbdgpbdaaaDoorVmA
namespace Go.Proofs.YtbadplbdgpbdaaaDoor
open Go.RowKit
namespace Ru
open Msk Vm Lx
open Sl (strV Reads)

set_option maxRecDepth 100000 in
set_option maxHeartbeats 4000000 in
theorem VmWell_true (v : Value) (l : List Rule) (w : World) (hr : RulesV w w.heap.size v l) (hT : Tab w) :
    Calls Tryd.prog 4 #[v] w fun e w' => e = .returned (.bool true) ∧ Below w.heap.size w w' := by
  obtain ⟨spf, C, hsp, hCo⟩ := comp_exists l
  have hComp := Lib.hid (fun (W : World) (hb : Below w.heap.size w W) => Compile_any hsp v l W (hr.below hb (Nat.le_refl _) hb.size) (hT.after hb) hCo)
  unfold CompPost at hComp
  have hlr : ∃ A cap, v = .slice A l.length cap := by obtain ⟨A, cap, h, _⟩ := hr; exact ⟨A, cap, h⟩
  obtain ⟨A, cap, rfl⟩ := hlr
  rcases comp_two (spf := spf) (l := l) (C := C) with ⟨h1, h2, _⟩ | ⟨h1, hf, hc⟩
  · obtain ⟨q, hq⟩ : ∃ q, q = compF spf l C := ⟨_, rfl⟩
    rw [← hq] at hComp h1 h2
    obtain ⟨q1, q2, q3⟩ := q
    simp only at h1 h2
    subst h1
    have g1 : (q2 != 0) = true := by simpa using h2
    clear hq h2 hr
    unfold Ru.faultV at hComp
    simp only at hComp
    go_enter Tryd.func4, Tryd.ntmps4
    go_wp2_with fail
    refine (alive8 _).mono ?_
    rintro e w1 ⟨rfl, hb1⟩
    go_wp2_with fail
    refine (hComp.out _ hb1).mono ?_
    rintro e w2 ⟨cv, rfl, hcv, hb2⟩
    obtain ⟨A2, cap2, rfl, _⟩ := hcv
    have hbw : Below w.heap.size w w2 := hb1.trans (hb2.mono hb1.size)
    go_wp2
    go_ret
    exact ⟨rfl, hbw.alloc hbw.size _⟩
  · have hR := right_of h1
    have hok := right_ok h1
    have h40 := (form_right (wrong_form h1)).1
    have hwell := codes_well hsp hR h40 (hCo h1) hf hok
    rw [hc] at hComp
    have hW := Lib.hid (fun (W : World) (cv : Value) (hcv : CodesV W W.heap.size cv (codesL l C)) => Wrong_any cv (codesL l C) W hcv)
    rw [hwell] at hW
    unfold Vm.faultV at hW
    unfold Ru.faultV at hComp
    have hcl := codesL_len (l := l) (C := C)
    clear hr hwell hok hR hc hCo hf h1 h40
    simp only at hComp
    go_enter Tryd.func4, Tryd.ntmps4
    go_wp2_with fail
    refine (alive8 _).mono ?_
    rintro e w1 ⟨rfl, hb1⟩
    go_wp2_with fail
    refine (hComp.out _ hb1).mono ?_
    rintro e w2 ⟨cv, rfl, hcv, hb2⟩
    have hbw : Below w.heap.size w w2 := hb1.trans (hb2.mono hb1.size)
    have hW2 := Lib.hid (fun (W : World) (hb : Below w2.heap.size w2 W) => hW.out W cv (hcv.below hb (Nat.le_refl _) hb.size))
    obtain ⟨A2, cap2, rfl, _⟩ := hcv
    rw [hcl] at hW2 ⊢
    have z2 := hbw.size
    go_wp2_with fail
    refine (hW2.out _ ((by repeat (first | exact Below.refl _ _ | assumption | refine Below.n _ ?_ (by first | omega | (simp; done) | (simp; omega)) | refine Below.alloc ?_ (by first | omega | (simp; done) | (simp; omega)) _ | refine Below.setCell ?_ (by first | omega | (simp; done) | (simp; omega)) _ | refine Below.drew ?_ | refine Below.setRow ?_ (by first | omega | (simp; done) | (simp; omega)) _ | refine Below.drewN ?_ _)))).mono ?_
    rintro e w3 ⟨rfl, hb3⟩
    go_wp2
    go_ret
    exact ⟨rfl, (hbw.alloc z2 _).trans (hb3.mono (by simp; omega))⟩

end Ru
end Go.Proofs.YtbadplbdgpbdaaaDoor
