/- Words of 64 bits, as numbers; a set as its words; plain; no condition. -/
import Derived.Test.YtnhgcgjmmalebaaDoorBase
set_option linter.unusedVariables false
set_option linter.unusedSimpArgs false
namespace Go.Proofs.YtnhgcgjmmalebaaDoor
open Go.XS

theorem wrap_u64 {n : Nat} (h : n < 2 ^ 64) : IntKind.wrap .u64 (n : Int) = (n : Int) := by
  have : (2 : Nat) ^ 64 = 18446744073709551616 := by decide
  exact IntWalk.u64_in _ (by omega)

def nbits (op : BinOp) (w v : Nat) : Nat :=
  (match op with
    | .and => BitVec.ofNat 64 w &&& BitVec.ofNat 64 v
    | .or => BitVec.ofNat 64 w ||| BitVec.ofNat 64 v
    | .xor => BitVec.ofNat 64 w ^^^ BitVec.ofNat 64 v
    | _ => BitVec.ofNat 64 w &&& ~~~ BitVec.ofNat 64 v).toNat
theorem nbits_lt (op : BinOp) (w v : Nat) : nbits op w v < 2 ^ 64 := by
  unfold nbits
  exact BitVec.isLt _
theorem ibits_nat (op : BinOp) (w v : Nat) : ibits op .u64 (w : Int) (v : Int) = (nbits op w v : Int) := by
  have h1 : ∀ x : Nat, BitVec.ofInt IntKind.u64.bits (x : Int) = BitVec.ofNat 64 x := fun x => BitVec.ofInt_natCast 64 x
  unfold ibits
  rw [h1, h1]
  have := nbits_lt op w v
  unfold nbits at this ⊢
  exact wrap_u64 this

theorem nbits_or {w v i : Nat} (hw : w < 2 ^ 64) (hv : v < 2 ^ 64) : (nbits .or w v).testBit i = (w.testBit i || v.testBit i) := by
  simp [nbits, Nat.mod_eq_of_lt hw, Nat.mod_eq_of_lt hv]
theorem nbits_and {w v i : Nat} (hw : w < 2 ^ 64) (hv : v < 2 ^ 64) : (nbits .and w v).testBit i = (w.testBit i && v.testBit i) := by
  simp [nbits, Nat.mod_eq_of_lt hw, Nat.mod_eq_of_lt hv]
theorem nbits_xor {w v i : Nat} (hw : w < 2 ^ 64) (hv : v < 2 ^ 64) : (nbits .xor w v).testBit i = (w.testBit i ^^ v.testBit i) := by
  simp [nbits, Nat.mod_eq_of_lt hw, Nat.mod_eq_of_lt hv]
theorem nbits_not {w v i : Nat} (hw : w < 2 ^ 64) (hv : v < 2 ^ 64) : (nbits .andNot w v).testBit i = (w.testBit i && !v.testBit i) := by
  have h : (nbits .andNot w v).testBit i = (BitVec.ofNat 64 w &&& ~~~ BitVec.ofNat 64 v).getLsbD i := rfl
  rw [h, BitVec.getLsbD_and, BitVec.getLsbD_not, BitVec.getLsbD_ofNat, BitVec.getLsbD_ofNat]
  by_cases hi : i < 64
  · simp [hi]
  · have : w.testBit i = false := Nat.testBit_lt_two_pow (Nat.lt_of_lt_of_le hw (Nat.pow_le_pow_right (by decide) (by omega)))
    simp [hi, this]

theorem ishl_one {j : Nat} (h : j < 64) : ishl .u64 1 (j : Int) = ((2 ^ j : Nat) : Int) := by
  unfold ishl
  have e : min (j : Int).toNat IntKind.u64.bits = j := by
    have : IntKind.u64.bits = 64 := rfl
    rw [this]; simp; omega
  rw [e]
  have : (1 : Int) * 2 ^ j = ((2 ^ j : Nat) : Int) := by simp
  rw [this]
  exact wrap_u64 (Nat.pow_lt_pow_right (by decide) h)
theorem ishr_nat {w j : Nat} (h : j < 64) : ishr .u64 (w : Int) (j : Int) = ((w / 2 ^ j : Nat) : Int) := by
  unfold ishr
  have e : min (j : Int).toNat IntKind.u64.bits = j := by
    have : IntKind.u64.bits = 64 := rfl
    rw [this]; simp; omega
  rw [e]
  have : ((2 : Int) ^ j) = ((2 ^ j : Nat) : Int) := by simp
  rw [this, Int.fdiv_eq_ediv_of_nonneg _ (Int.natCast_nonneg _)]
  simp

theorem bit_test {w j : Nat} (hw : w < 2 ^ 64) (h : j < 64) : (ibits .and .u64 (ishr .u64 (w : Int) (j : Int)) 1 == 1) = w.testBit j := by
  rw [ishr_nat h]
  have h1 : (1 : Int) = ((1 : Nat) : Int) := rfl
  rw [h1, ibits_nat]
  have hlt : w / 2 ^ j < 2 ^ 64 := Nat.lt_of_le_of_lt (Nat.div_le_self _ _) hw
  have e : nbits .and (w / 2 ^ j) 1 = w / 2 ^ j % 2 := by
    have : nbits .and (w / 2 ^ j) 1 = (w / 2 ^ j) &&& 1 := by
      simp only [nbits, BitVec.toNat_and, BitVec.toNat_ofNat, Nat.mod_eq_of_lt hlt]
    rw [this, Nat.and_one_is_mod]
  rw [e, Nat.testBit_eq_decide_div_mod_eq]
  have := Nat.mod_lt (w / 2 ^ j) (show 0 < 2 by decide)
  generalize w / 2 ^ j % 2 = r at *
  by_cases hr : r = 1
  · subst hr; rfl
  · have : r = 0 := by omega
    subst this; rfl

/-- The words of a set. -/
structure BRep (ws : List Nat) (n : Nat) (m : Nat → Bool) : Prop where
  len : ws.length = (n + 63) / 64
  lt : ∀ w ∈ ws, w < 2 ^ 64
  bit : ∀ k w, ws[k]? = some w → ∀ j, j < 64 → w.testBit j = m (64 * k + j)
  out : ∀ i, n ≤ i → m i = false

def uv (ws : List Nat) : List Value := ws.map fun w : Nat => .int .u64 (w : Int)
@[simp] theorem uv_length (ws : List Nat) : (uv ws).length = ws.length := by simp [uv]
theorem uv_get {ws : List Nat} {i w : Nat} (h : ws[i]? = some w) : (uv ws)[i]? = some (.int .u64 (w : Int)) := by simp [uv, h]
theorem uv_set (ws : List Nat) (i w : Nat) : (uv ws).set i (.int .u64 (w : Int)) = uv (ws.set i w) := by simp [uv, List.map_set]

theorem BRep.zeros (n : Nat) : BRep (List.replicate ((n + 63) / 64) 0) n (fun _ => false) where
  len := by simp
  lt := by intro w hw; rw [List.eq_of_mem_replicate hw]; decide
  bit := by
    intro k w hk j hj
    rw [List.eq_of_mem_replicate (List.mem_of_getElem? hk)]
    simp
  out := fun _ _ => rfl

theorem BRep.word {ws : List Nat} {n : Nat} {m : Nat → Bool} (h : BRep ws n m) {i : Nat} (hi : i < n) : ∃ w, ws[i / 64]? = some w ∧ w < 2 ^ 64 ∧ w.testBit (i % 64) = m i := by
  have hl : i / 64 < ws.length := by rw [h.len]; omega
  refine ⟨ws[i / 64], List.getElem?_eq_getElem hl, h.lt _ (List.getElem_mem hl), ?_⟩
  rw [h.bit _ _ (List.getElem?_eq_getElem hl) (i % 64) (by omega)]
  congr 1; omega

def flip (m : Nat → Bool) (i : Nat) (v : Bool) : Nat → Bool := fun j => if j = i then v else m j

theorem BRep.put {ws : List Nat} {n : Nat} {m : Nat → Bool} (h : BRep ws n m) {i w : Nat} {v : Bool} (hi : i < n) {w' : Nat} (hw : ws[i / 64]? = some w) (hw' : w' < 2 ^ 64) (hb : ∀ j, j < 64 → w'.testBit j = if j = i % 64 then v else w.testBit j) :
    BRep (ws.set (i / 64) w') n (flip m i v) where
  len := by simp [h.len]
  lt := by
    intro x hx
    rcases List.mem_or_eq_of_mem_set hx with h1 | rfl
    · exact h.lt x h1
    · exact hw'
  bit := by
    intro k x hk j hj
    rw [List.getElem?_set] at hk
    by_cases hki : i / 64 = k
    · rw [if_pos hki] at hk
      split at hk
      · have hx : w' = x := Option.some.inj hk
        subst hx
        rw [hb j hj]
        unfold flip
        by_cases hji : j = i % 64
        · rw [if_pos hji, if_pos (by omega)]
        · rw [if_neg hji, if_neg (by omega), ← hki]
          exact h.bit _ _ hw j hj
      · cases hk
    · rw [if_neg hki] at hk
      unfold flip
      rw [if_neg (by omega)]
      exact h.bit k x hk j hj
  out := by
    intro j hj
    unfold flip
    rw [if_neg (by omega)]
    exact h.out j hj

end Go.Proofs.YtnhgcgjmmalebaaDoor
