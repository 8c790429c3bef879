/- sync.Once, one goroutine: its slow road, and the call of Do, in the logic of blocks; no condition but what the function handed on does. -/
import Derived.Test.YtnhgcgjmmalebaaDoorOncePartsT
set_option linter.unusedVariables false
set_option linter.unusedSimpArgs false
namespace Go.Proofs.YtnhgcgjmmalebaaDoor
open Go.XS

section
variable {B : Heap} {H : List HProp} {K : Value → HP} {b o : Nat} {cs : Array Value} {p : Addr} {α : Type} {cs2 : α → Array Value} {H2 : α → List HProp}

theorem own_cell {w : World} {i : Nat} {v : Value} (ow : Own B (cl b cs :: H) w.heap) (hc : cs[i]? = some v) : w.cell? ⟨b, i, none⟩ = some v := by
  rw [cell_eq]
  exact ((hasC_head (B := B) (H := H)).cell ow i).trans hc
theorem own_frozen {w : World} {i : Nat} (ow : Own B (cl b cs :: H) w.heap) (hi : i < cs.size) : w.frozen? ⟨b, i, none⟩ = false := by
  obtain ⟨l1, ⟨tt, fr, rfl, hfr⟩, hc⟩ := ow.head
  have hb := (hc (b, .cells cs tt fr) (by simp)).2
  rw [frozen_eq]
  simp only [hfrozen, hb]
  have := hfr i hi
  obtain ⟨lo, hi'⟩ := fr
  simpa using this
theorem own_set {w : World} {i : Nat} {v : Value} (ow : Own B (cl b cs :: H) w.heap) : Own B (cl b (cs.setIfInBounds i v) :: H) (w.setCell ⟨b, i, none⟩ v).heap := by
  rw [setCell_eq]
  exact ow.set

set_option maxRecDepth 100000 in
set_option maxHeartbeats 1600000 in
theorem once_slow (h0 : cs[o]? = some (.int .u32 0)) (h1 : cs[o + 1]? = some (.int .i32 0)) (h02 : ∀ x, (cs2 x)[o]? = some (.int .u32 0)) (h12 : ∀ x, (cs2 x)[o + 1]? = some (.int .i32 1))
    (hf : ∀ Kf : Value → HP, (∀ x, T B (cl b (cs2 x) :: H2 x) (Kf (.tuple #[]))) → T B (cl b (cs.setIfInBounds (o + 1) (.int .i32 1)) :: H) (callP P 60 #[.pointer (some p)] Kf))
    (hk : ∀ x, T B (cl b (((cs2 x).setIfInBounds o (.int .u32 1)).setIfInBounds (o + 1) (.int .i32 0)) :: H2 x) (K (.tuple #[]))) :
    T B (cl b cs :: H) (callP P 72 #[.pointer (some ⟨b, o, none⟩), .func (.func 60) #[.pointer (some p)] #[]] K) := by
  intro σ ow w hw
  subst hw
  have s0 : o < cs.size := (Array.getElem?_eq_some_iff.1 h0).1
  have s1 : o + 1 < cs.size := (Array.getElem?_eq_some_iff.1 h1).1
  have c1 := own_cell ow h1
  have f1 := own_frozen ow s1
  have ow1 := own_set (i := o + 1) (v := .int .i32 1) ow
  have c0' : (w.setCell ⟨b, o + 1, none⟩ (.int .i32 1)).cell? ⟨b, o, none⟩ = some (.int .u32 0) := own_cell ow1 (by simp [Array.getElem?_setIfInBounds, h0])
  have hnot : ∀ (x : Bool) (w : World), (Op.unary .not (.bool x)).run Tryd.prog w = .ok (.bool (!x)) w := fun _ _ => rfl
  have hlay : Calls Tryd.prog 60 #[.pointer (some p)] (w.setCell ⟨b, o + 1, none⟩ (.int .i32 1)) _ := hf (fun v σ' => v = .tuple #[] ∧ ∃ x, Own B (cl b (cs2 x) :: H2 x) σ') (fun x σ o => ⟨rfl, x, o⟩) _ ow1 _ rfl
  go_enter_defers Tryd.func72, Tryd.ntmps72
  go_wp2_with (first | (go_at_call 75; refine (lock_free ⟨b, o + 1, none⟩ _ (by assumption) (by assumption)).mono ?_; rintro e w' ⟨rfl, rfl⟩) | (go_at_call 71; refine (bool_load0 ⟨b, o, none⟩ _ (by assumption)).mono ?_; rintro e w' ⟨rfl, rfl⟩) | (go_at_call 60; refine hlay.mono ?_; rintro e w2 ⟨v, rfl, ⟨rfl, x, ow2⟩, out2⟩))
  have h02 := h02 x
  have h12 := h12 x
  have s02 : o < (cs2 x).size := (Array.getElem?_eq_some_iff.1 h02).1
  have s12 : o + 1 < (cs2 x).size := (Array.getElem?_eq_some_iff.1 h12).1
  refine leaves_cons (f := 77) (args := #[.pointer (some ⟨b, o, none⟩), .bool true]) (by simp) (by simp [go_sem]) ?_
  refine (store_deferred ⟨b, o, none⟩ (.int .u32 0) .returning _ (own_cell ow2 h02) (own_frozen ow2 s02)).mono ?_
  rintro e u' w'' ⟨rfl, rfl, rfl⟩
  have ow3 : Own B (cl b ((cs2 x).setIfInBounds o (.int .u32 1)) :: H2 x) (w2.drew.setCell ⟨b, o, none⟩ (.int .u32 1)).heap := own_set (w := w2.drew) ow2
  have ow4 := own_set (i := o + 1) (v := .int .i32 0) ow3
  refine leaves_cons (f := 76) (args := #[.pointer (some ⟨b, o + 1, none⟩)]) (by simp [settle]) (by simp [go_sem]) ?_
  refine (unlock_deferred ⟨b, o + 1, none⟩ _ _ (own_cell ow3 (by simp [Array.getElem?_setIfInBounds, h12])) (own_frozen ow3 (by simpa using s12))).mono ?_
  rintro e u' w'' ⟨rfl, rfl, rfl⟩
  have hK := hk x _ ow4
  have hO : Outer w ((w2.drew.setCell ⟨b, o, none⟩ (.int .u32 1)).setCell ⟨b, o + 1, none⟩ (.int .i32 0)) := by
    rw [setCell_eq, setCell_eq]
    obtain ⟨q1, q2, q3⟩ := out2
    rw [setCell_eq] at q1 q2 q3
    exact ⟨q1, q2, q3⟩
  simp only [Leaves, settle, results, Tryd.results72]
  exact ⟨.tuple #[], by first | rfl | (simp [go_sem]; done) | (simp [go_sem]; rfl), .tuple #[], rfl, hK, hO⟩

set_option maxRecDepth 100000 in
set_option maxHeartbeats 1600000 in
theorem once_Do (h0 : cs[o]? = some (.int .u32 0)) (h1 : cs[o + 1]? = some (.int .i32 0)) (h02 : ∀ x, (cs2 x)[o]? = some (.int .u32 0)) (h12 : ∀ x, (cs2 x)[o + 1]? = some (.int .i32 1))
    (hf : ∀ Kf : Value → HP, (∀ x, T B (cl b (cs2 x) :: H2 x) (Kf (.tuple #[]))) → T B (cl b (cs.setIfInBounds (o + 1) (.int .i32 1)) :: H) (callP P 60 #[.pointer (some p)] Kf))
    (hk : ∀ x, T B (cl b (((cs2 x).setIfInBounds o (.int .u32 1)).setIfInBounds (o + 1) (.int .i32 0)) :: H2 x) (K (.tuple #[]))) :
    T B (cl b cs :: H) (callP P 59 #[.pointer (some ⟨b, o, none⟩), .func (.func 60) #[.pointer (some p)] #[]] K) := by
  intro σ ow w hw
  subst hw
  have c0 := own_cell ow h0
  have hnot : ∀ (x : Bool) (w : World), (Op.unary .not (.bool x)).run Tryd.prog w = .ok (.bool (!x)) w := fun _ _ => rfl
  have hslow : Calls Tryd.prog 72 #[.pointer (some ⟨b, o, none⟩), .func (.func 60) #[.pointer (some p)] #[]] w _ := once_slow (K := fun v σ' => v = .tuple #[] ∧ K (.tuple #[]) σ') h0 h1 h02 h12 hf (fun x => T_and rfl (hk x)) _ ow w rfl
  go_enter Tryd.func59, Tryd.ntmps59
  go_wp2_with (first | (go_at_call 71; refine (bool_load0 ⟨b, o, none⟩ _ (by assumption)).mono ?_; rintro e w' ⟨rfl, rfl⟩) | (go_at_call 72; refine hslow.mono ?_; rintro e w' ⟨v, rfl, ⟨rfl, hK⟩, hO⟩))
  go_end0
  exact ⟨_, rfl, hK, hO⟩

set_option maxRecDepth 100000 in
set_option maxHeartbeats 1600000 in
theorem once_Done {fv : Value} (h0 : cs[o]? = some (.int .u32 1)) (hk : T B (cl b cs :: H) (K (.tuple #[]))) :
    T B (cl b cs :: H) (callP P 59 #[.pointer (some ⟨b, o, none⟩), fv] K) := by
  intro σ ow w hw
  subst hw
  have c0 := own_cell ow h0
  have hnot : ∀ (x : Bool) (w : World), (Op.unary .not (.bool x)).run Tryd.prog w = .ok (.bool (!x)) w := fun _ _ => rfl
  have hK := hk _ ow
  go_enter Tryd.func59, Tryd.ntmps59
  go_wp2_with (go_at_call 71; refine (bool_load1 ⟨b, o, none⟩ _ (by assumption)).mono ?_; rintro e w' ⟨rfl, rfl⟩)
  go_end0
  exact ⟨_, rfl, hK, rfl, rfl, rfl⟩

end
end Go.Proofs.YtnhgcgjmmalebaaDoor
