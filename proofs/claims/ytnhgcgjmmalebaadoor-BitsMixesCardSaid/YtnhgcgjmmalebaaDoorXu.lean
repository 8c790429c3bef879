/- Bytes: a slice of bytes turned to a text, texts put together, arrays of whole numbers held against each other: each rule is proved; no condition. -/
import Derived.Test.YtnhgcgjmmalebaaDoorXt
import Derived.Laws.IdiomStrings
import Derived.ChangeKeysEq
import Derived.Laws.Strings
set_option linter.unusedVariables false
set_option linter.unusedSimpArgs false
namespace Go.XS

def bv (l : List UInt8) : List Value := l.map fun b => .int .u8 b.toNat
@[simp] theorem bv_length (l : List UInt8) : (bv l).length = l.length := by simp [bv]
theorem bv_get {l : List UInt8} {i : Nat} {b : UInt8} (h : l[i]? = some b) : (bv l)[i]? = some (.int .u8 b.toNat) := by simp [bv, h]
theorem bv_append (a b : List UInt8) : bv (a ++ b) = bv a ++ bv b := by simp [bv]
theorem bv_take (a : List UInt8) (n : Nat) : (bv a).take n = bv (a.take n) := by simp [bv]
theorem bv_drop (a : List UInt8) (n : Nat) : (bv a).drop n = bv (a.drop n) := by simp [bv]
theorem bv_one (l : List UInt8) : ∀ v ∈ bv l, v.oneCell' = true := by
  intro v hv
  obtain ⟨z, _, rfl⟩ := List.mem_map.1 hv
  rfl
theorem bv_iv (l : List UInt8) : bv l = iv .u8 (l.map fun b => (b.toNat : Int)) := by simp [bv, iv]
theorem bytesV_eq (s : ByteArray) : bytesV s = bv s.data.toList := rfl
theorem ofL_inj {a b : List UInt8} (h : (⟨a.toArray⟩ : ByteArray) = ⟨b.toArray⟩) : a = b := by
  have := congrArg (fun s => s.data.toList) h
  simpa using this
theorem ofL_data (s : ByteArray) : (⟨s.data.toList.toArray⟩ : ByteArray) = s := by simp
theorem ofL_size (l : List UInt8) : (⟨l.toArray⟩ : ByteArray).size = l.length := by simp [ByteArray.size]
theorem ofL_append (a b : List UInt8) : (⟨a.toArray⟩ ++ ⟨b.toArray⟩ : ByteArray) = ⟨(a ++ b).toArray⟩ := by
  apply ByteArray.ext
  simp [ByteArray.data_append]
theorem ofL_extract (l : List UInt8) (i j : Nat) : (⟨l.toArray⟩ : ByteArray).extract i j = ⟨((l.take j).drop i).toArray⟩ := by
  apply ByteArray.ext
  apply Array.ext'
  simp [ByteArray.data_extract, List.extract_eq_take_drop, List.drop_take]

theorem toList_data (s : ByteArray) : s.toList = s.data.toList := ByteArray.toList_eq s

section
variable {P : Program} {B : Heap} {H : List HProp} {K : Value → HP}

theorem T_convB {src dst e : TypeId} {q : Option Addr} {l : List UInt8} {n c : Nat} (hs : P.underlying src = some (.slice e)) (he : P.underlying e = some (.int .u8)) (hd : P.underlying dst = some .string)
    (hr : RdV B H q (bv l)) (hq : q.isSome = true) (hn : n = l.length) (t : T B H (K (.string ⟨l.toArray⟩))) : T B H (semP P (convert src dst (.slice q n c)) K) := by
  subst hn
  intro σ o
  obtain ⟨a, rfl⟩ := Option.isSome_iff_exists.1 hq
  rcases hr σ o with ⟨h, _⟩ | ⟨a', h, hh⟩
  · cases h
  cases h
  refine semP_run (.string ⟨l.toArray⟩) (fun w hw => run_convert_bytes_back w src dst e a c l hs he hd fun j hj => ?_) (t σ o)
  rw [cell_eq, hw, hh j (by simpa using hj)]
  exact bv_get (List.getElem?_eq_getElem hj)

theorem T_addS {t : TypeId} {x y : Operand} {a b : List UInt8} (hl : a.length + b.length ≤ 1000000000) (k : T B H (K (.string ⟨(a ++ b).toArray⟩))) :
    T B H (semP P (do eqGuard .add t x y (.string ⟨a.toArray⟩) (.string ⟨b.toArray⟩); binOp .add t (.string ⟨a.toArray⟩) (.string ⟨b.toArray⟩)) K) := by
  intro σ o
  refine semP_guard trivial (semP_run (.string ⟨(a ++ b).toArray⟩) (fun w hw => ?_) (k σ o))
  show (Op.stringOp .add ⟨a.toArray⟩ ⟨b.toArray⟩).run P w = _
  unfold Op.stringOp
  have hmax : IntKind.i64.max = 9223372036854775807 := by decide
  rw [if_neg (by rw [ofL_size, ofL_size, hmax]; omega), ofL_append]
  rfl

theorem eqItems_ints {e : TypeId} {k : IntKind} (he : P.underlying e = some (.int k)) (w : World) (d : Nat) {xs ys : Array Value} {f g : Nat → Int} : ∀ (is : List Nat), (∀ i ∈ is, xs[i]? = some (.int k (f i)) ∧ ys[i]? = some (.int k (g i))) →
    (Op.eqItems (d + 1) e 1 xs ys is).run P w = .ok (is.all fun i => f i == g i) w
  | [], _ => by simp [Op.eqItems]
  | i :: is, h => by
    obtain ⟨h1, h2⟩ := h i (by simp)
    have hagg : (TK.of P e).isAgg = false := by simp [TK.of, he, TK.isAgg]
    have hu : (P.underlying e).isSome = true := by simp [he]
    simp only [Op.eqItems, Sem.run_bind, Nat.mul_one, part_run hu hagg h1 w, part_run hu hagg h2 w, Result.andThen_ok, run_equalIn_int w d e k k (f i) (g i) he, List.all_cons]
    cases hfg : (f i == g i)
    · simp
    · simp only [Bool.not_true, Bool.false_eq_true, if_false, Bool.true_and]
      exact eqItems_ints he w d is fun j hj => h j (by simp [hj])

theorem T_eqArr {t e : TypeId} {k : IntKind} {n : Nat} {x y : Operand} {zs ws : List Int} (hm : P.eqGuardType P.depth t = false) (ht : P.underlying t = some (.array n e)) (he : P.underlying e = some (.int k)) (hi : (P.info? e).isSome = true) (hs : P.cellsOf e = 1)
    (hz : zs.length = n) (hw : ws.length = n) (h : T B H (K (.bool (decide (zs = ws))))) :
    T B H (semP P (do eqGuard .eql t x y (.agg (iv k zs).toArray) (.agg (iv k ws).toArray); binOp .eql t (.agg (iv k zs).toArray) (.agg (iv k ws).toArray)) K) := by
  obtain ⟨info, hinfo⟩ := Option.isSome_iff_exists.1 hi
  refine T_sem (.bool (decide (zs = ws))) (fun σ o w hw' => ?_) h
  rw [Sem.run_bind, run_eqGuard_agg w .eql t x y _ _ hm, Result.andThen_ok, run_eql_struct, run_equalIn_array w 9999 _ _ ht hinfo, hs,
    eqItems_ints he w 9998 (f := fun i => zs.getD i 0) (g := fun i => ws.getD i 0) (List.range n) (fun i hi => ?_), Result.andThen_ok]
  · congr 2
    have key : ((List.range n).all fun i => zs.getD i 0 == ws.getD i 0) = true ↔ zs = ws := by
      rw [List.all_eq_true]
      constructor
      · intro h
        apply List.ext_getElem?
        intro i
        by_cases hi : i < n
        · have := h i (List.mem_range.2 hi)
          have h1 : zs[i]? = some zs[i] := List.getElem?_eq_getElem (by omega)
          have h2 : ws[i]? = some ws[i] := List.getElem?_eq_getElem (by omega)
          simp only [List.getD, h1, h2, Option.getD_some, beq_iff_eq] at this
          rw [h1, h2, this]
        · rw [List.getElem?_eq_none (by omega), List.getElem?_eq_none (by omega)]
      · rintro rfl i _
        simp
    by_cases h : zs = ws
    · rw [key.2 h]; simp [h]
    · have := mt key.1 h
      simp only [Bool.not_eq_true] at this
      rw [this]; simp [h]
  · have hi := List.mem_range.1 hi
    have h1 : zs[i]? = some zs[i] := List.getElem?_eq_getElem (by omega)
    have h2 : ws[i]? = some ws[i] := List.getElem?_eq_getElem (by omega)
    simp [iv, List.getD, h1, h2]

theorem cells_agg {z : Value} {cs : Array Value} (h : z.cells = cs) (hs : cs.size ≠ 1) : z = .agg cs := by
  subst h
  cases z <;> first | rfl | exact absurd rfl hs
end
end Go.XS
