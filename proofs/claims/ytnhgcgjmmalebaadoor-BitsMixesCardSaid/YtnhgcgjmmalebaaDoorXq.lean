/- Clear and copy of slices, in the logic of blocks: each rule is proved; no condition. -/
import Derived.Test.YtnhgcgjmmalebaaDoorXp
set_option linter.unusedVariables false
set_option linter.unusedSimpArgs false
namespace Go.XS

section
variable {P : Program} {B : Heap} {H : List HProp} {b o : Nat} {cs : Array Value} {H' : Array Value → List HProp}

theorem T_back [h : UpdC H b cs H'] {p : HP} (t : T B (H' cs) p) : T B H p := by
  obtain ⟨H0, h1, h2⟩ := h.perm
  exact T_perm h1 (T_perm (h2 cs).symm t)

theorem T_clear {ats : Array TypeId} {t0 t elem : TypeId} {s n c : Nat} [h : UpdC H b cs H'] {K : Value → HP} (h0 : ats[0]? = some t0) (hu : P.underlying t0 = some (.slice elem)) (hz : zok P elem = true)
    (hs : (zc P elem).size = s) (hone : ∀ v ∈ (Builtin.zeroCells (zc P elem) n).toList, v.oneCell' = true) (hfit : o + n * s ≤ cs.size)
    (t' : T B (H' (setCells cs o (Builtin.zeroCells (zc P elem) n).toList)) (K (.tuple #[]))) : T B H (semP P (Builtin.clear_ ats t #[.slice (some ⟨b, o, none⟩) n c]) K) := by
  intro σ ow
  unfold Builtin.clear_
  simp only [h0, List.getElem?_toArray, List.getElem?_cons_zero]
  refine semP_bind (semP_underlying hu ?_)
  cases n with
  | zero =>
    refine semP_bind (semP_pure (semP_pure ?_))
    have e : (Builtin.zeroCells (zc P elem) 0).toList = [] := by simp [Builtin.zeroCells, Array.range]
    rw [e] at t'
    exact T_back (b := b) (cs := cs) (H' := H') t' σ ow
  | succ n =>
    refine semP_bind (semP_zero hz fun z hzc => ?_)
    rw [hzc]
    refine semP_bind (semP_mono (fun _ σ h => semP_pure h) (semP_storeCells _ 0 ?_))
    refine T_stL (o := o) _ 0 (H := H) (cs := cs) ?_ hone t' σ ow
    simp only [Builtin.zeroCells, Array.length_toList, Array.size_map, Array.size_range, hs, Nat.add_zero]
    exact hfit

theorem T_copy {ats : Array TypeId} {t0 t elem : TypeId} {s l c m d : Nat} {q : Option Addr} {ys : List Value} [h : UpdC H b cs H'] {K : Value → HP} (h0 : ats[0]? = some t0)
    (hu : P.underlying t0 = some (.slice elem)) (hi : (P.info? elem).isSome = true) (hs : P.cellsOf elem = s) (hy : RdV B H q ys) (hyl : ys.length = Nat.min m l * s) (hone : ∀ v ∈ ys, v.oneCell' = true)
    (hfit : o + Nat.min m l * s ≤ cs.size) (t' : T B (H' (setCells cs o ys)) (K (.int .i64 (Nat.min m l : Nat)))) :
    T B H (semP P (Builtin.copy_ ats t #[.slice (some ⟨b, o, none⟩) l c, .slice q m d]) K) := by
  intro σ ow
  unfold Builtin.copy_
  simp only [h0, List.getElem?_toArray, List.getElem?_cons_zero, List.getElem?_cons_succ]
  refine semP_bind (semP_underlying hu ?_)
  refine semP_bind (semP_pure ?_)
  refine semP_bind (semP_sizeOf hi ?_)
  refine semP_bind (semP_firstCells (s := P.cellsOf elem) (n := Nat.min m l) (q := q) (m := m) (d := d) (ys := ys) (hy σ ow) (by rw [hs]; exact hyl) ?_)
  refine semP_bind (semP_mono (fun _ σ h => semP_pure h) (semP_storeCells _ 0 ?_))
  exact T_stL (o := o) ys 0 (H := H) (cs := cs) (by rw [hyl]; exact hfit) hone t' σ ow

/-- The bytes of a text. -/
def bytesV (s : ByteArray) : List Value := s.data.toList.map fun b => .int .u8 b.toNat

theorem T_copyS {ats : Array TypeId} {t0 t elem : TypeId} {l c : Nat} {x : ByteArray} [h : UpdC H b cs H'] {K : Value → HP} (h0 : ats[0]? = some t0)
    (hu : P.underlying t0 = some (.slice elem)) (hi : (P.info? elem).isSome = true) (hs : P.cellsOf elem = 1) 
    (hfit : o + Nat.min x.size l ≤ cs.size) (t' : T B (H' (setCells cs o (bytesV (x.extract 0 (Nat.min x.size l))))) (K (.int .i64 (Nat.min x.size l : Nat)))) :
    T B H (semP P (Builtin.copy_ ats t #[.slice (some ⟨b, o, none⟩) l c, .string x]) K) := by
  intro σ ow
  unfold Builtin.copy_
  simp only [h0, List.getElem?_toArray, List.getElem?_cons_zero, List.getElem?_cons_succ]
  refine semP_bind (semP_underlying hu ?_)
  refine semP_bind (semP_pure ?_)
  refine semP_bind (semP_sizeOf hi ?_)
  refine semP_bind (semP_pure ?_)
  refine semP_bind (semP_mono (fun _ σ h => semP_pure h) (semP_storeCells _ 0 ?_))
  have e : ((x.extract 0 (Nat.min x.size l)).data.map fun b => Value.int .u8 b.toNat).toList = bytesV (x.extract 0 (Nat.min x.size l)) := by simp [bytesV]
  rw [e]
  have hlen : (bytesV (x.extract 0 (Nat.min x.size l))).length = Nat.min x.size l := by
    have : (x.extract 0 (Nat.min x.size l)).size = Nat.min x.size l := by
      rw [ByteArray.size_extract]
      show min (Nat.min x.size l) x.size - 0 = _
      rw [Nat.sub_zero]
      exact Nat.min_eq_left (Nat.min_le_left x.size l)
    simp only [bytesV, List.length_map, Array.length_toList]
    exact this
  refine T_stL (o := o) _ 0 (H := H) (cs := cs) (by rw [hlen]; exact hfit) (fun v hv => ?_) t' σ ow
  obtain ⟨z, _, rfl⟩ := List.mem_map.1 hv
  rfl

end
end Go.XS
