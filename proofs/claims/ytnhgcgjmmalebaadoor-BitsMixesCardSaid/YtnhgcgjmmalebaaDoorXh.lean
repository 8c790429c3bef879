/- Regions and whole bodies: the interpreter is sound against the model: for any program; the schedules are looked over by closed tests. -/
import Derived.Test.YtnhgcgjmmalebaaDoorXg
set_option linter.unusedVariables false
set_option linter.unusedSimpArgs false
namespace Go.XS

section
variable {P : Program} {ops : Array Oper}

theorem chkH_spec {chk : List Nat} {p : HP} {σ : Heap} : ∀ {H : HeldL}, chkH chk H p σ → p σ ∧ ∀ x ∈ H, chk.contains x.1 = true → x.2 σ
  | [], h => ⟨h, by simp⟩
  | (i, I) :: H, h => by
    simp only [chkH] at h
    cases hc : chk.contains i with
    | true =>
      rw [hc] at h
      obtain ⟨hI, h⟩ := h
      obtain ⟨h1, h2⟩ := chkH_spec h
      refine ⟨h1, fun x hx hxc => ?_⟩
      rcases List.mem_cons.1 hx with rfl | hx
      · exact hI
      · exact h2 x hx hxc
    | false =>
      rw [hc] at h
      obtain ⟨h1, h2⟩ := chkH_spec h
      refine ⟨h1, fun x hx hxc => ?_⟩
      rcases List.mem_cons.1 hx with rfl | hx
      · rw [hc] at hxc; cases hxc
      · exact h2 x hx hxc

theorem held_cell {k : TK} (hk : k.isAgg = false) {a : Addr} {n : Nat} {v : Value} {σ : Heap} (h : k.held a n v σ) : hcell σ a = some v := by
  cases k <;> first | exact h | cases hk

theorem held_of_ld {k : TK} {a : Addr} {n : Nat} {f : Value → HP} {σ : Heap} (h : k.ld a n f σ) : ∃ v, k.held a n v σ ∧ f v σ := by
  cases k <;> simp only [TK.ld] at h
  case agg => obtain ⟨cs, h1, h2, h3⟩ := h; exact ⟨_, ⟨cs, rfl, h1, h2⟩, h3⟩
  case slice => obtain ⟨p, l, c, h1, h2⟩ := h; exact ⟨_, h1, h2⟩
  all_goals (obtain ⟨b, h1, h2⟩ := h; exact ⟨_, h1, h2⟩)

theorem held_load {t : TypeId} {a : Addr} {v : Value} (ht : tyOk P t = true) (w : World) (h : (TK.of P t).held a (P.cellsOf t) v w.heap) :
    (loadVar t a).run P w = .ok v w := by
  obtain ⟨hi, hu⟩ := tyOk_spec ht
  obtain ⟨d, hd⟩ := Option.isSome_iff_exists.1 hu
  unfold loadVar
  rw [Sem.run_bind, run_isAgg hd, TK.of_agg hd, Result.andThen_ok]
  cases hk : (TK.of P t).isAgg with
  | true =>
    have he : TK.of P t = .agg := by
      revert hk
      generalize TK.of P t = k
      cases k <;> simp [TK.isAgg]
    rw [he] at h
    obtain ⟨cs, rfl, hn, hc⟩ := h
    have := run_loadCells_list (P := P) w a cs.toList (fun j v hj => by
      have hlt : j < P.cellsOf t := by
        have := List.getElem?_eq_some_iff.1 hj
        obtain ⟨h1, _⟩ := this
        simpa [hn] using h1
      rw [cell_eq, hc j hlt]
      simpa using hj)
    simp only [if_true, Sem.run_bind, sizeOf_run hi, Result.andThen_ok]
    have hl : cs.toList.length = P.cellsOf t := by simpa using hn
    rw [hl] at this
    rw [this]
    simp
  | false =>
    simp only [Bool.false_eq_true, if_false, run_load, cell_eq, held_cell hk h]

theorem xload_spec {e : Env} {ρ : Operand → Value} {o : Oper} {K : SV → (Heap → Prop) → HP} {σ : Heap} (hρ : ∀ x v, ev e x = some v → ρ x = v.toV)
    (h : xload P e o K σ) : ∃ (v : Value) (I : Heap → Prop), I σ ∧ (∀ w : World, I w.heap → (execOp ρ o).run P w = .ok (.value v) w) ∧ K (.val v) I σ := by
  obtain ⟨dst, op, ty, pos, after, guard⟩ := o
  cases op <;> simp only [xload] at h <;> first | exact h.elim | skip
  case load t x =>
  have h := withV_spec hρ h
  cases hx : ρ x <;> rw [hx] at h <;> (try simp only at h) <;> first | exact h.elim | skip
  obtain ⟨a, rfl, h⟩ := adr_spec h
  obtain ⟨ht, h⟩ := tyIs_spec h
  obtain ⟨v, hI, hk⟩ := held_of_ld h
  refine ⟨v, _, hI, fun w hw => ?_, hk⟩
  simp [execOp, Instr.loadAt, Instr.sureAddr, hx, held_load ht w hw]

/-- Every slot that is written is one of the frame's. -/
def dstsIn (n : Nat) (ops : Array Oper) : Prop := ∀ (i : Nat) o d, ops[i]? = some o → o.dst = some d → d < n

theorem contains_of {l : List Nat} {i : Nat} (h : l.contains i = true) : i ∈ l := by simpa using h

theorem xloud_wp (hN : NoCount P) {n i : Nat} {e : Env} {a : Act} {w : World} {o : Oper} {k : SV → Env → HP} {next : Act → World → Prop} {Q : Exit → Act → World → Prop}
    (hd : dstsIn n ops) (hi : ops[i]? = some o) (hE : EnvOk n e a)
    (h : xguard ops e o (fun e => xop P e o fun v => k v e) (fun e => k .un e) w.heap)
    (hk : ∀ e' (sv : SV) (w' : World), EnvOk n e' a → Outer w w' → k sv e' w'.heap → next (a.put o.dst sv.toV) w') : wpOp P ops Q i next a w := by
  unfold wpOp
  simp only [hi]
  rcases xguard_spec hE h with ⟨e', hE', hw, h⟩ | ⟨e', hE', hw, h⟩
  · simp only [hw, if_true]
    refine .inl (wp_of_next (K := fun v => k v e') (xop_sound hN hE'.ev h) ?_)
    exact fun sv w' ho hK => hk e' sv w' hE' ho hK
  · simp only [hw, Bool.false_eq_true, if_false]
    exact hk e' .un w hE' (.refl w) h

theorem xsched_sound (hN : NoCount P) {n : Nat} {tab : List Nat} {w0 : World} {Fr : Act → Prop} {K : Env → HP} {N : Act → World → Prop}
    (hsel : ∀ (j : Nat) (o : Oper) cs b, ops[j]? = some o → o.op ≠ .select cs b) (hdep : DepOk .any ops (depT tab)) (hd : dstsIn n ops) (hFr : ∀ (i : Nat) o a v, ops[i]? = some o → Fr a → Fr (a.put o.dst v))
    (hK : ∀ e a w, EnvOk n e a → Fr a → Outer w0 w → K e w.heap → N a w) :
    ∀ (s : Sch) (ls : List Nat) (H : HeldL) (listed : Array Bool) (fuel : Nat) (e : Env) (a : Act) (w : World), schOk ops tab s ls listed = true → s.len ≤ fuel →
      Closed (depT tab) listed → (∀ p ∈ H, p.1 ∈ ls ∨ ∀ σ, p.2 σ) → EnvOk n e a → Fr a → Outer w0 w → xsched P ops s H e K w.heap →
      wpH P .any ops N (depT tab) H fuel listed a w := by
  intro s
  induction s with
  | done =>
    intro ls H listed fuel e a w hs hf hc hH hE hds ho h
    have hr : Region.ready .any ops listed = [] := by simpa [schOk] using hs
    have hn := hK e a w hE hds ho h
    cases fuel with
    | zero => exact ⟨hr, hn⟩
    | succ fuel => exact ⟨fun _ => hn, fun i hi => by rw [hr] at hi; cases hi⟩
  | step i m r ih =>
    intro ls H listed fuel e a w hs hf hc hH hE hds ho h
    simp only [Sch.len] at hf
    obtain ⟨fuel, rfl⟩ : ∃ f, fuel = f + 1 := ⟨fuel - 1, by omega⟩
    simp only [xsched] at h
    cases hi : ops[i]? with
    | none => rw [hi] at h; exact h.elim
    | some o =>
      rw [hi] at h
      simp only at h
      have hdst : ∀ t, o.dst = some t → t < n := fun t ht => hd i o t hi ht
      cases m with
      | pure =>
        simp only [schOk, Bool.and_eq_true] at hs
        obtain ⟨⟨hr, hfree⟩, hs⟩ := hs
        have hr := contains_of hr
        rcases xguard_spec hE h with ⟨e', hE', hw, h⟩ | ⟨e', hE', hw, h⟩
        · obtain ⟨sv, hy, h⟩ := xpure_spec hE'.ev h
          refine wpH_first (I := fun _ => True) hdep hi hsel fuel listed a w hc (Region.free_spec hi hfree) hr (.inl ⟨hw, fun w' _ => hy w'⟩) trivial ?_
          refine ih ls ((i, fun _ => True) :: H) _ fuel _ _ _ hs (by omega) (hc.set hdep hr) ?_ (hE'.put hdst sv) (hFr _ _ _ _ hi hds) ho h
          exact fun p hp => (List.mem_cons.1 hp).elim (fun e => .inr (by subst e; exact fun _ => trivial)) (hH p)
        · refine wpH_first (I := fun _ => True) (v := undef) hdep hi hsel fuel listed a w hc (Region.free_spec hi hfree) hr (.inr ⟨hw, rfl⟩) trivial ?_
          refine ih ls ((i, fun _ => True) :: H) _ fuel _ _ _ hs (by omega) (hc.set hdep hr) ?_ (hE'.put hdst .un) (hFr _ _ _ _ hi hds) ho h
          exact fun p hp => (List.mem_cons.1 hp).elim (fun e => .inr (by subst e; exact fun _ => trivial)) (hH p)
      | load =>
        simp only [schOk, Bool.and_eq_true] at hs
        obtain ⟨⟨hr, hfree⟩, hs⟩ := hs
        have hr := contains_of hr
        rcases xguard_spec hE h with ⟨e', hE', hw, h⟩ | ⟨e', hE', hw, h⟩
        · obtain ⟨v, I, hI, hy, h⟩ := xload_spec hE'.ev h
          refine wpH_first (I := I) hdep hi hsel fuel listed a w hc (Region.free_spec hi hfree) hr (.inl ⟨hw, hy⟩) hI ?_
          refine ih (i :: ls) ((i, I) :: H) _ fuel _ _ _ hs (by omega) (hc.set hdep hr) ?_ (hE'.put hdst (.val v)) (hFr _ _ _ _ hi hds) ho h
          exact fun p hp => (List.mem_cons.1 hp).elim (fun e => .inl (by subst e; simp)) (fun hp => (hH p hp).imp (fun h => by simp [h]) id)
        · refine wpH_first (I := fun _ => True) (v := undef) hdep hi hsel fuel listed a w hc (Region.free_spec hi hfree) hr (.inr ⟨hw, rfl⟩) trivial ?_
          refine ih (i :: ls) ((i, fun _ => True) :: H) _ fuel _ _ _ hs (by omega) (hc.set hdep hr) ?_ (hE'.put hdst .un) (hFr _ _ _ _ hi hds) ho h
          exact fun p hp => (List.mem_cons.1 hp).elim (fun e => .inr (by subst e; exact fun _ => trivial)) (fun hp => (hH p hp).imp (fun h => by simp [h]) id)
      | loud chk =>
        simp only [schOk, Bool.and_eq_true, beq_iff_eq, List.all_eq_true, Bool.or_eq_true] at hs
        obtain ⟨⟨hr, hch⟩, hs⟩ := hs
        have hri : i ∈ Region.ready .any ops listed := by rw [hr]; simp
        refine ⟨fun h0 => (by rw [hr] at h0; cases h0), fun j hj => ?_⟩
        rw [hr] at hj
        obtain rfl : j = i := by simpa using hj
        refine xloud_wp hN (n := n) (k := fun v e => chkH chk H (xsched P ops r H (upd e o.dst v) K)) hd hi hE h ?_
        intro e' sv w' hE' how hk
        obtain ⟨hk, hheld⟩ := chkH_spec hk
        refine ⟨fun p hp hdp _ => ?_, ?_⟩
        · rcases hH p hp with hp' | hp'
          · rcases hch p.1 hp' with h1 | h1
            · rw [hdp] at h1; cases h1
            · exact hheld p hp h1
          · exact hp' _
        · exact ih ls H _ fuel _ _ _ hs (by omega) (hc.set hdep hri) hH (hE'.put hdst sv) (hFr _ _ _ _ hi hds) (ho.trans how) hk
  | fork i ci ri j cj rj ihi ihj =>
    intro ls H listed fuel e a w hs hf hc hH hE hds ho h
    simp only [Sch.len] at hf
    obtain ⟨fuel, rfl⟩ : ∃ f, fuel = f + 1 := ⟨fuel - 1, by omega⟩
    simp only [xsched] at h
    obtain ⟨hl, hrr⟩ := h
    simp only [schOk, Bool.and_eq_true, beq_iff_eq, List.all_eq_true, Bool.or_eq_true] at hs
    obtain ⟨⟨⟨⟨hr, hchi⟩, hchj⟩, hsi⟩, hsj⟩ := hs
    have hri : i ∈ Region.ready .any ops listed := by rw [hr]; simp
    have hrj : j ∈ Region.ready .any ops listed := by rw [hr]; simp
    refine ⟨fun h0 => (by rw [hr] at h0; cases h0), fun k hk => ?_⟩
    rw [hr] at hk
    have hk : k = i ∨ k = j := by simpa using hk
    rcases hk with rfl | rfl
    · cases hi : ops[k]? with
      | none => rw [hi] at hl; exact hl.elim
      | some o =>
        rw [hi] at hl
        have hdst : ∀ t, o.dst = some t → t < n := fun t ht => hd k o t hi ht
        refine xloud_wp hN (n := n) (k := fun v e => chkH ci H (xsched P ops ri H (upd e o.dst v) K)) hd hi hE hl ?_
        intro e' sv w' hE' how hk
        obtain ⟨hk, hheld⟩ := chkH_spec hk
        refine ⟨fun p hp hdp _ => ?_, ?_⟩
        · rcases hH p hp with hp' | hp'
          · rcases hchi p.1 hp' with h1 | h1
            · rw [hdp] at h1; cases h1
            · exact hheld p hp h1
          · exact hp' _
        · exact ihi ls H _ fuel _ _ _ hsi (by omega) (hc.set hdep hri) hH (hE'.put hdst sv) (hFr _ _ _ _ hi hds) (ho.trans how) hk
    · cases hi : ops[k]? with
      | none => rw [hi] at hrr; exact hrr.elim
      | some o =>
        rw [hi] at hrr
        have hdst : ∀ t, o.dst = some t → t < n := fun t ht => hd k o t hi ht
        refine xloud_wp hN (n := n) (k := fun v e => chkH cj H (xsched P ops rj H (upd e o.dst v) K)) hd hi hE hrr ?_
        intro e' sv w' hE' how hk
        obtain ⟨hk, hheld⟩ := chkH_spec hk
        refine ⟨fun p hp hdp _ => ?_, ?_⟩
        · rcases hH p hp with hp' | hp'
          · rcases hchj p.1 hp' with h1 | h1
            · rw [hdp] at h1; cases h1
            · exact hheld p hp h1
          · exact hp' _
        · exact ihj ls H _ fuel _ _ _ hsj (by omega) (hc.set hdep hrj) hH (hE'.put hdst sv) (hFr _ _ _ _ hi hds) (ho.trans how) hk

theorem xdraw_sound (hN : NoCount P) (hm : P.follows .mixedOrders = true) {Fr : Act → Prop} {n id : Nat} {tab : List Nat} {s : Sch} {w0 : World} {K : Env → HP} {e : Env} {a : Act} {w : World}
    {Q : Exit → Act → World → Prop} (hreg : regOk ops tab s = true) (hd : dstsIn n ops) (hFr : ∀ (i : Nat) o a v, ops[i]? = some o → Fr a → Fr (a.put o.dst v)) (hf0 : Fr a) (hE : EnvOk n e a) (ho : Outer w0 w)
    (hK : ∀ e' a' w', EnvOk n e' a' → Fr a' → Outer w0 w' → K e' w'.heap → Q .normal a' w') (h : xsched P ops s [] e K w.heap) :
    (Code.region id ops true).wp P Q a w := by
  simp only [regOk, Bool.and_eq_true, decide_eq_true_eq] at hreg
  obtain ⟨⟨⟨hsel, htab⟩, hlen⟩, hsch⟩ := hreg
  have key := xsched_sound (P := P) (ops := ops) (tab := tab) (w0 := w0) (Fr := Fr) (K := K) (N := fun a' w' => Q .normal a' w') hN (Region.noSelect_spec hsel) (tabOk_spec htab) hd hFr
    (fun e a w h1 h2 h3 h4 => hK e a w h1 h2 h3 h4) s [] [] (Array.replicate ops.size false) ops.size e a { w with drawn := w.drawn + 1 } hsch hlen
    (fun j hj => by
      exfalso
      have : (Array.replicate ops.size false).getD j false = false := by
        by_cases hlt : j < ops.size <;> simp [Array.getD_eq_getD_getElem?, hlt]
      rw [this] at hj; cases hj) (by simp) hE hf0 ⟨ho.1, ho.2.1, ho.2.2⟩ h
  have h1 := wpAny_of_H _ _ _ _ key
  refine wp_region_any hm ?_
  have mono : ∀ (fuel : Nat) (listed : Array Bool) (a' : Act) (w' : World), wpAny P .any ops (Qn fun a' w' => Q .normal a' w') fuel listed a' w' → wpAny P .any ops Q fuel listed a' w' := by
    have opm : ∀ (i : Nat) (K1 K2 : Act → World → Prop) (a' : Act) (w' : World), (∀ a w, K1 a w → K2 a w) → wpOp P ops (Qn fun a' w' => Q .normal a' w') i K1 a' w' → wpOp P ops Q i K2 a' w' := by
      intro i K1 K2 a' w' hk hh
      unfold wpOp at *
      cases hi : ops[i]? with
      | none => rw [hi] at hh; exact hk _ _ hh
      | some o =>
        rw [hi] at hh
        simp only at hh ⊢
        split
        · rename_i hw
          rw [if_pos hw] at hh
          rcases hh with hh | ⟨_, a0, w0, hh⟩
          · refine .inl ?_
            unfold Oper.wp at *
            generalize (execOp a'.eval o).run P w' = r at *
            cases r with
            | ok nx w1 =>
              cases nx <;> simp only [Oper.upon] at hh ⊢
              case value u => exact hk _ _ hh
              case skip => exact hk _ _ hh
              case defer d => exact hk _ _ hh
              case enter f args =>
                refine Calls.mono hh fun e w2 he => ?_
                cases e with
                | returned v => exact hk _ _ he
                | panicked c => exact he.elim
                | outgrown => obtain ⟨_, _, he⟩ := he; exact he.elim
              case row row args => exact Rows.mono hh fun u w2 he => hk _ _ he
            | halt x w1 => cases x <;> simp only [Oper.upon] at hh ⊢; exact hh.elim
          · exact hh.elim
        · rename_i hw
          rw [if_neg hw] at hh
          exact hk _ _ hh
    intro fuel
    induction fuel with
    | zero => exact fun _ _ _ h => h
    | succ fuel ih => exact fun listed a' w' h => ⟨h.1, fun i hi => opm i _ _ a' w' (fun a w => ih _ a w) (h.2 i hi)⟩
  exact mono _ _ _ _ h1

end
end Go.XS
