/-
  The law SkyHalf, plainly: the planned looks are a plan with that gain; each covers something new; no plan gains more than twice as much.
-/
import Derived.Test.YtcclfhdglhbpcaaGreatDoorW47
import Derived.Test.YtcclfhdglhbpcaaGreatDoorW46
namespace Go.Proofs.YtcclfhdglhbpcaaGreatDoor
open Go.RowKit Al Half9

/-- What is left, as a function of the cell. -/
def Lof (lf : List Int) (c : Nat) : Int := lf.getD c 0
theorem sees_up (n : Int) (N : Nat) (x : Scp) (t : Nat) : (seesX n N x t).Pairwise (· < ·) := by
  unfold seesX pickL cellsL
  rw [List.pairwise_map]
  refine List.Pairwise.filter _ ?_
  rw [List.pairwise_map]
  refine List.Pairwise.imp ?_ List.pairwise_lt_range
  intro a b h
  show (a : Int) < (b : Int)
  omega
theorem covers_up (n : Int) (N : Nat) (x : Scp) (t : Nat) (c : Int) : (coversX n N x t c).Pairwise (· < ·) := (sees_up n N x t).filter _
def covN (n : Int) (N : Nat) (x : Scp) (t : Nat) (c : Int) : List Nat := (coversX n N x t c).map Int.toNat
theorem covN_in {n : Int} {N : Nat} {x : Scp} {t : Nat} {c : Int} {k : Nat} (h : k ∈ covN n N x t c) : k < N := by
  obtain ⟨y, hy, rfl⟩ := List.mem_map.1 h
  have := coversX_in hy
  omega
theorem covN_nd (n : Int) (N : Nat) (x : Scp) (t : Nat) (c : Int) : (covN n N x t c).Nodup := by
  unfold covN List.Nodup
  rw [List.pairwise_map]
  refine (covers_up n N x t c).imp_of_mem ?_
  intro a b ha hb h
  have := coversX_in ha
  have := coversX_in hb
  show a.toNat ≠ b.toNat
  omega
theorem takeF_fst (aw : Bool) (o : List Int) (l : List Int) (hn : (l.map Int.toNat).Nodup) : (takeF aw o l).1 = ((l.map Int.toNat).map (Lof o)).sum := by
  induction l generalizing o with
  | nil => rfl
  | cons c t ih =>
    rw [List.map_cons, List.nodup_cons] at hn
    rw [takeF, List.map_cons, List.map_cons, List.sum_cons]
    have h1 := ih (if aw = true then o.set c.toNat 0 else o) hn.2
    show o.getD c.toNat 0 + _ = Lof o c.toNat + _
    rw [h1]
    show Lof o c.toNat + _ = _
    congr 2
    apply List.map_congr_left
    intro k hk
    unfold Lof
    cases aw with
    | false => rfl
    | true =>
      have : c.toNat ≠ k := fun e => hn.1 (e ▸ hk)
      simp [List.getD_eq_getElem?_getD, List.getElem?_set_ne this]
theorem takeF_snd (o l : List Int) : Lof (takeF true o l).2 = away (Lof o) (l.map Int.toNat) := by
  induction l generalizing o with
  | nil => rw [takeF, List.map_nil, away_nil]
  | cons c t ih =>
    rw [takeF]
    show Lof (takeF true (o.set c.toNat 0) t).2 = _
    rw [ih]
    funext k
    unfold away
    rw [List.map_cons]
    by_cases hk : k ∈ t.map Int.toNat
    · rw [if_pos hk, if_pos (List.mem_cons_of_mem _ hk)]
    · rw [if_neg hk]
      unfold Lof
      by_cases hc : k = c.toNat
      · subst hc
        rw [if_pos (List.mem_cons_self ..)]
        rw [List.getD_eq_getElem?_getD, List.getElem?_set]
        simp only [if_true]
        split <;> rfl
      · rw [if_neg (by rw [List.mem_cons]; rintro (h | h); exact hc h; exact hk h)]
        simp [List.getD_eq_getElem?_getD, List.getElem?_set_ne (Ne.symm hc)]
theorem tot_single (n c : Nat) (v : Int) (h : c < n) : tot n (fun k => if k = c then v else 0) = v := by
  induction n with
  | zero => omega
  | succ n ih =>
    rw [tot_succ]
    by_cases hc : c < n
    · rw [ih hc, if_neg (by omega)]; omega
    · have e : tot n (fun k => if k = c then v else 0) = tot n (fun _ => 0) := by
        unfold tot
        congr 1
        apply List.map_congr_left
        intro k hk
        rw [if_neg (by have := List.mem_range.1 hk; omega)]
      rw [e, tot_zero, if_pos (by omega)]
      omega
theorem got_sum (n : Nat) (L : Nat → Int) {C : List Nat} (hn : C.Nodup) (hc : ∀ k ∈ C, k < n) : got n L C = (C.map L).sum := by
  induction C with
  | nil => rw [got_nil]; rfl
  | cons c t ih =>
    rw [List.nodup_cons] at hn
    have h1 := ih hn.2 (fun k hk => hc k (List.mem_cons_of_mem _ hk))
    rw [List.map_cons, List.sum_cons, ← h1]
    unfold got
    have e : onC (c :: t) L = fun k => (if k = c then L c else 0) + onC t L k := by
      funext k
      unfold onC
      by_cases hk : k = c
      · subst hk
        rw [if_pos (List.mem_cons_self ..), if_pos rfl, if_neg hn.1]
        omega
      · rw [if_neg hk]
        by_cases ht : k ∈ t
        · rw [if_pos (List.mem_cons_of_mem _ ht), if_pos ht]; omega
        · rw [if_neg ht, if_neg (by rw [List.mem_cons]; rintro (h | h); exact hk h; exact ht h)]; omega
    rw [e, tot_add, tot_single _ _ _ (hc c (List.mem_cons_self ..))]
theorem take_got (aw : Bool) (n : Int) (N : Nat) (x : Scp) (t : Nat) (c : Int) (o : List Int) : (takeF aw o (coversX n N x t c)).1 = got N (Lof o) (covN n N x t c) := by
  rw [takeF_fst aw o _ (covN_nd n N x t c), got_sum N (Lof o) (covN_nd n N x t c) (fun k hk => covN_in hk)]
  rfl
def covL3 (n : Int) (N : Nat) (L : List Scp) (x : V3) : List Nat := covN n N (scpAt L x.2.1) x.1.toNat x.2.2
theorem gaF_acc (n : Int) (N : Nat) (L : List Scp) (p : List V3) (lf : List Int) (g : Int) : (p.foldl (gaS n N L) (lf, g)).2 = g + gain N (Lof lf) (p.map (covL3 n N L)) := by
  induction p generalizing lf g with
  | nil => show g = g + 0; omega
  | cons x t ih =>
    rw [List.foldl_cons, List.map_cons]
    have e : gaS n N L (lf, g) x = ((takeF true lf (coversX n N (scpAt L x.2.1) x.1.toNat x.2.2)).2, g + (takeF true lf (coversX n N (scpAt L x.2.1) x.1.toNat x.2.2)).1) := rfl
    rw [e, ih, take_got, takeF_snd]
    show g + _ + _ = g + (got N (Lof lf) (covL3 n N L x) + gain N (away (Lof lf) (covL3 n N L x)) (t.map (covL3 n N L)))
    unfold covL3 covN
    omega
theorem gaF_gain (n : Int) (N : Nat) (L : List Scp) (p : List V3) (lf : List Int) : (gaF n N L lf p).2 = gain N (Lof lf) (p.map (covL3 n N L)) := by
  unfold gaF
  rw [gaF_acc]
  omega
/-- The rows of the plan as one list of places. -/
def planK (n : Int) (N : Nat) (L : List Scp) (st : PSt) (K : Nat) : PSt := (List.range K).foldl (fun st k => stepF n N L (k / L.length) st (k % L.length)) st
theorem planK_succ (n : Int) (N : Nat) (L : List Scp) (st : PSt) (K : Nat) : planK n N L st (K + 1) = stepF n N L (K / L.length) (planK n N L st K) (K % L.length) := by
  unfold planK
  rw [List.range_succ, List.foldl_append]
  rfl
theorem planK_row (n : Int) (N : Nat) (L : List Scp) (st : PSt) (t : Nat) : ∀ j, j ≤ L.length → planK n N L st (t * L.length) = planF n N L st t → planK n N L st (t * L.length + j) = rowF n N L (planF n N L st t) t j
  | 0, _, h => h
  | j + 1, hj, h => by
    rw [← Nat.add_assoc, planK_succ, planK_row n N L st t j (by omega) h, rowF_succ]
    have h0 : 0 < L.length := by omega
    rw [show (t * L.length + j) / L.length = t by rw [Nat.mul_comm, Nat.mul_add_div h0, Nat.div_eq_of_lt (by omega)]; omega, show (t * L.length + j) % L.length = j by rw [Nat.mul_comm, Nat.mul_add_mod, Nat.mod_eq_of_lt (by omega)]]
theorem planK_is (n : Int) (N : Nat) (L : List Scp) (st : PSt) : ∀ t, planK n N L st (t * L.length) = planF n N L st t
  | 0 => by rw [Nat.zero_mul]; rfl
  | t + 1 => by
    rw [Nat.succ_mul, planK_row n N L st t L.length (Nat.le_refl _) (planK_is n N L st t), planF_succ]
theorem scp_dflt (L : List Scp) (s : Nat) : L.getD s default = scpAt L (s : Int) := rfl
/-- The best look, if it gains something. -/
def bst (n : Int) (N : Nat) (L : List Scp) (k : Nat) (lf : List Int) : V3 × Int := bestF n N (L.getD (k % L.length) default) (k / L.length) (k % L.length) lf ((0, 0, 0), 0) (seesX n N (L.getD (k % L.length) default) (k / L.length))
theorem bestF_max (n : Int) (N : Nat) (x : Scp) (t s : Nat) (lf : List Int) : ∀ (l : List Int) (bm : V3 × Int), bm.2 ≤ (bestF n N x t s lf bm l).2 ∧ ∀ c ∈ l, (takeF false lf (coversX n N x t c)).1 ≤ (bestF n N x t s lf bm l).2
  | [], _ => ⟨Int.le_refl _, fun c h => by cases h⟩
  | a :: r, bm => by
    rw [bestF]
    by_cases hlt : bm.2 < (takeF false lf (coversX n N x t a)).1
    · rw [if_pos hlt]
      obtain ⟨h1, h2⟩ := bestF_max n N x t s lf r (((t : Int), (s : Int), a), (takeF false lf (coversX n N x t a)).1)
      simp only at h1
      refine ⟨by omega, fun c hc => ?_⟩
      rcases List.mem_cons.1 hc with rfl | hc
      · exact h1
      · exact h2 c hc
    · rw [if_neg hlt]
      obtain ⟨h1, h2⟩ := bestF_max n N x t s lf r bm
      refine ⟨h1, fun c hc => ?_⟩
      rcases List.mem_cons.1 hc with rfl | hc
      · omega
      · exact h2 c hc
/-- What stepF does at a place. -/
theorem step_at (n : Int) (N : Nat) (L : List Scp) (k : Nat) (st : PSt) : (0 < (bst n N L k st.lf).2 ∧ ∃ c ∈ seesX n N (scpAt L ((k % L.length : Nat) : Int)) (k / L.length), (bst n N L k st.lf).2 = got N (Lof st.lf) (covL3 n N L (((k / L.length : Nat) : Int), ((k % L.length : Nat) : Int), c)) ∧
      stepF n N L (k / L.length) st (k % L.length) = ⟨(takeF true st.lf (coversX n N (scpAt L ((k % L.length : Nat) : Int)) (k / L.length) c)).2, st.pl ++ [(((k / L.length : Nat) : Int), ((k % L.length : Nat) : Int), c)], st.g + got N (Lof st.lf) (covL3 n N L (((k / L.length : Nat) : Int), ((k % L.length : Nat) : Int), c))⟩) ∨
    ((bst n N L k st.lf).2 = 0 ∧ stepF n N L (k / L.length) st (k % L.length) = st) := by
  obtain ⟨h0, h1⟩ := bestF_in n N (L.getD (k % L.length) default) (k / L.length) (k % L.length) st.lf (seesX n N (L.getD (k % L.length) default) (k / L.length))
  by_cases hp : 0 < (bst n N L k st.lf).2
  · refine .inl ⟨hp, ?_⟩
    obtain ⟨c, hc, he⟩ := h1 hp
    refine ⟨c, hc, ?_, ?_⟩
    · unfold bst
      rw [he, take_got]
      rfl
    · unfold stepF
      rw [if_pos (show 0 < (bestF n N (L.getD (k % L.length) default) (k / L.length) (k % L.length) st.lf ((0, 0, 0), 0) (seesX n N (L.getD (k % L.length) default) (k / L.length))).2 from hp), he]
      simp only
      rw [take_got]
      rfl
  · refine .inr ⟨?_, ?_⟩
    · have : 0 ≤ (bst n N L k st.lf).2 := h0
      omega
    · unfold stepF
      rw [if_neg (show ¬ 0 < (bestF n N (L.getD (k % L.length) default) (k / L.length) (k % L.length) st.lf ((0, 0, 0), 0) (seesX n N (L.getD (k % L.length) default) (k / L.length))).2 from hp)]
/-- The covers that the greedy way takes. -/
def Dg (n : Int) (N : Nat) (L : List Scp) (k : Nat) (f : Nat → Int) : List Nat := if 0 < (bst n N L k ((List.range N).map f)).2 then covL3 n N L (bst n N L k ((List.range N).map f)).1 else []
theorem Lof_range {N : Nat} (f : Nat → Int) {c : Nat} (h : c < N) : Lof ((List.range N).map f) c = f c := by
  unfold Lof
  simp [List.getD_eq_getElem?_getD, h]
theorem range_Lof {N : Nat} {lf : List Int} (h : lf.length = N) : (List.range N).map (Lof lf) = lf := by
  apply List.ext_getElem
  · simp [h]
  · intro i h1 h2
    simp [Lof, h2]
theorem got_congr {n : Nat} {f g : Nat → Int} (C : List Nat) (h : ∀ c, c < n → f c = g c) : got n f C = got n g C := by
  unfold got tot
  congr 1
  apply List.map_congr_left
  intro k hk
  unfold onC
  rw [h k (List.mem_range.1 hk)]
theorem got_nn {n : Nat} {f : Nat → Int} (C : List Nat) (h : ∀ c, 0 ≤ f c) : 0 ≤ got n f C := by
  have := tot_le (n := n) (f := fun _ => 0) (g := onC C f) (fun c _ => by unfold onC; split; exact h c; exact Int.le_refl _)
  rw [tot_zero] at this
  exact this
theorem Dg_got (n : Int) (N : Nat) (L : List Scp) (k : Nat) (f : Nat → Int) : got N f (Dg n N L k f) = (bst n N L k ((List.range N).map f)).2 := by
  obtain ⟨h0, h1⟩ := bestF_in n N (L.getD (k % L.length) default) (k / L.length) (k % L.length) ((List.range N).map f) (seesX n N (L.getD (k % L.length) default) (k / L.length))
  unfold Dg
  by_cases hp : 0 < (bst n N L k ((List.range N).map f)).2
  · rw [if_pos hp]
    obtain ⟨c, hc, he⟩ := h1 hp
    have he : bst n N L k ((List.range N).map f) = ((((k / L.length : Nat) : Int), ((k % L.length : Nat) : Int), c), (takeF false ((List.range N).map f) (coversX n N (L.getD (k % L.length) default) (k / L.length) c)).1) := he
    rw [he, take_got]
    exact got_congr _ (fun c hc => (Lof_range f hc).symm)
  · rw [if_neg hp, got_nil]
    have : 0 ≤ (bst n N L k ((List.range N).map f)).2 := h0
    omega
def slotK (L : List Scp) (x : V3) : Nat := x.1.toNat * L.length + x.2.1.toNat
theorem look_parts {L : List Scp} {n : Int} {N : Nat} {x : V3} (h : lookB L n N x = true) : (0 ≤ x.1 ∧ x.1 < (m0L L : Int)) ∧ (0 ≤ x.2.1 ∧ x.2.1 < (L.length : Int)) ∧ x.2.2 ∈ seesX n N (scpAt L x.2.1) x.1.toNat := by
  unfold lookB at h
  rw [Bool.and_eq_true] at h
  obtain ⟨ht, hc⟩ := h
  unfold turnB at ht
  rw [Bool.and_eq_true] at ht
  have a := inB_true.1 ht.1
  have b := inB_true.1 ht.2
  exact ⟨⟨b.1, by omega⟩, ⟨a.1, by omega⟩, List.contains_iff_mem.1 hc⟩
theorem slot_parts {L : List Scp} {x : V3} {m : Nat} (hs : x.2.1.toNat < L.length) (ht : x.1.toNat < m) : slotK L x / L.length = x.1.toNat ∧ slotK L x % L.length = x.2.1.toNat ∧ slotK L x < m * L.length := by
  have h0 : 0 < L.length := by omega
  unfold slotK
  refine ⟨?_, ?_, ?_⟩
  · rw [Nat.mul_comm, Nat.mul_add_div h0, Nat.div_eq_of_lt hs]; omega
  · rw [Nat.mul_comm, Nat.mul_add_mod, Nat.mod_eq_of_lt hs]
  · have : x.1.toNat * L.length + L.length ≤ m * L.length := by rw [← Nat.succ_mul]; exact Nat.mul_le_mul_right _ ht
    omega
theorem Dg_best {n : Int} {N : Nat} {L : List Scp} (k : Nat) (f : Nat → Int) (hf : ∀ c, 0 ≤ f c) : 0 ≤ got N f (Dg n N L k f) ∧ ∀ x, lookB L n N x = true → slotK L x = k → got N f (covL3 n N L x) ≤ got N f (Dg n N L k f) := by
  refine ⟨got_nn _ hf, fun x hx hk => ?_⟩
  obtain ⟨⟨a, b⟩, ⟨c, d⟩, e⟩ := look_parts hx
  obtain ⟨q1, q2, -⟩ := slot_parts (L := L) (x := x) (m := m0L L) (by omega) (by omega)
  rw [hk] at q1 q2
  rw [Dg_got]
  have hs : ((x.2.1.toNat : Nat) : Int) = x.2.1 := by omega
  have h := (bestF_max n N (scpAt L x.2.1) x.1.toNat x.2.1.toNat ((List.range N).map f) (seesX n N (scpAt L x.2.1) x.1.toNat) ((0, 0, 0), 0)).2 x.2.2 e
  unfold bst
  rw [q1, q2, scp_dflt, hs]
  rw [take_got] at h
  rw [got_congr (f := f) (g := Lof ((List.range N).map f)) _ (fun c hc => (Lof_range f hc).symm)]
  exact h
/-- The plan's gain is the greedy one. -/
theorem planK_gain (n : Int) (N : Nat) (L : List Scp) (a : Nat) (b : Nat) (st : PSt) (hl : st.lf.length = N) : ((List.range' a b).foldl (fun st k => stepF n N L (k / L.length) st (k % L.length)) st).g = st.g + gain N (Lof st.lf) (greedy (Dg n N L) (Lof st.lf) (List.range' a b)) := by
  induction b generalizing a st with
  | zero => show st.g = st.g + 0; omega
  | succ b ih =>
    rw [List.range'_succ, List.foldl_cons]
    show _ = st.g + (got N (Lof st.lf) (Dg n N L a (Lof st.lf)) + gain N (away (Lof st.lf) (Dg n N L a (Lof st.lf))) (greedy (Dg n N L) (away (Lof st.lf) (Dg n N L a (Lof st.lf))) (List.range' (a + 1) b)))
    have hd : Dg n N L a (Lof st.lf) = if 0 < (bst n N L a st.lf).2 then covL3 n N L (bst n N L a st.lf).1 else [] := by unfold Dg; rw [range_Lof hl]
    rcases step_at n N L a st with ⟨hp, c, hc, h2, hs⟩ | ⟨hp, hs⟩
    · obtain ⟨h0, h1⟩ := bestF_in n N (L.getD (a % L.length) default) (a / L.length) (a % L.length) st.lf (seesX n N (L.getD (a % L.length) default) (a / L.length))
      obtain ⟨c', hc', he⟩ := h1 hp
      have he : bst n N L a st.lf = ((((a / L.length : Nat) : Int), ((a % L.length : Nat) : Int), c'), (takeF false st.lf (coversX n N (L.getD (a % L.length) default) (a / L.length) c')).1) := he
      have hs' : stepF n N L (a / L.length) st (a % L.length) = ⟨(takeF true st.lf (coversX n N (scpAt L ((a % L.length : Nat) : Int)) (a / L.length) c')).2, st.pl ++ [(((a / L.length : Nat) : Int), ((a % L.length : Nat) : Int), c')], st.g + got N (Lof st.lf) (covL3 n N L (((a / L.length : Nat) : Int), ((a % L.length : Nat) : Int), c'))⟩ := by
        unfold stepF
        have hp' : 0 < (bestF n N (L.getD (a % L.length) default) (a / L.length) (a % L.length) st.lf ((0, 0, 0), 0) (seesX n N (L.getD (a % L.length) default) (a / L.length))).2 := hp
        have he' : bestF n N (L.getD (a % L.length) default) (a / L.length) (a % L.length) st.lf ((0, 0, 0), 0) (seesX n N (L.getD (a % L.length) default) (a / L.length)) = _ := he
        rw [if_pos hp', he']
        simp only
        rw [take_got]
        rfl
      rw [hd, if_pos hp, he, hs', ih (a + 1) _ (by show (takeF true _ _).2.length = N; rw [takeF_len]; exact hl)]
      simp only
      rw [takeF_snd]
      show st.g + got N (Lof st.lf) (covL3 n N L (((a / L.length : Nat) : Int), ((a % L.length : Nat) : Int), c')) + gain N (away (Lof st.lf) (covL3 n N L (((a / L.length : Nat) : Int), ((a % L.length : Nat) : Int), c'))) _ = _
      rw [Int.add_assoc]
      rfl
    · rw [hs, hd, if_neg (by omega), got_nil, away_nil, ih (a + 1) st hl]
      omega
/-- A rising list of numbers under K is a part of all of them. -/
theorem up_sub {K : Nat} : ∀ (b a : Nat) (l : List Nat), l.Pairwise (· < ·) → (∀ x ∈ l, a ≤ x ∧ x < a + b) → l.Sublist (List.range' a b)
  | 0, a, l, _, h => by
    cases l with
    | nil => exact List.nil_sublist _
    | cons x t => have := h x (List.mem_cons_self ..); omega
  | b + 1, a, l, hp, h => by
    rw [List.range'_succ]
    cases l with
    | nil => exact List.nil_sublist _
    | cons x t =>
      have hx := h x (List.mem_cons_self ..)
      rw [List.pairwise_cons] at hp
      by_cases he : x = a
      · subst he
        exact (up_sub (K := K) b (x + 1) t hp.2 (fun y hy => by have := hp.1 y hy; have := h y (List.mem_cons_of_mem _ hy); omega)).cons_cons _
      · refine (up_sub (K := K) b (a + 1) (x :: t) (List.pairwise_cons.2 hp) (fun y hy => ?_)).cons _
        rcases List.mem_cons.1 hy with rfl | hy
        · omega
        · have := hp.1 y hy; have := h y (List.mem_cons_of_mem _ hy); omega
/-- The places of a plan's looks rise. -/
theorem plan_at {L : List Scp} {n : Int} {N : Nat} {p : List V3} (h : planB L n N p = true) {k : Nat} (hk : k < p.length) : planS L n N p k = true := by
  unfold planB planN at h
  exact List.all_eq_true.1 h k (List.mem_range.2 hk)
theorem rise_slot {L : List Scp} {n : Int} {N : Nat} {a x : V3} (ha : lookB L n N a = true) (hx : lookB L n N x = true) (h : riseB a x = true) : slotK L a < slotK L x := by
  obtain ⟨⟨a1, a2⟩, ⟨a3, a4⟩, -⟩ := look_parts ha
  obtain ⟨⟨b1, b2⟩, ⟨b3, b4⟩, -⟩ := look_parts hx
  unfold riseB at h
  simp only [Bool.not_eq_true', Bool.or_eq_false_iff, decide_eq_false_iff_not, Bool.and_eq_false_iff] at h
  obtain ⟨h1, h2⟩ := h
  unfold slotK
  by_cases he : a.1 = x.1
  · rw [he]
    have h3 : ¬ x.2.1 ≤ a.2.1 := by
      rcases h2 with h2 | h2
      · rw [he] at h2; simp at h2
      · exact h2
    omega
  · have h4 : a.1.toNat + 1 ≤ x.1.toNat := by omega
    have h5 : (a.1.toNat + 1) * L.length ≤ x.1.toNat * L.length := Nat.mul_le_mul_right _ h4
    rw [Nat.succ_mul] at h5
    omega
theorem plan_up {L : List Scp} {n : Int} {N : Nat} {p : List V3} (h : planB L n N p = true) : (p.map (slotK L)).Pairwise (· < ·) := by
  have key : ∀ d i, i + d + 1 < p.length → slotK L (p.getD i (0, 0, 0)) < slotK L (p.getD (i + d + 1) (0, 0, 0)) := by
    intro d
    have st : ∀ i, i + 1 < p.length → slotK L (p.getD i (0, 0, 0)) < slotK L (p.getD (i + 1) (0, 0, 0)) := by
      intro i hi
      have h1 := plan_at h hi
      have h0 := plan_at h (show i < p.length by omega)
      unfold planS at h0 h1
      rw [Bool.and_eq_true] at h0 h1
      have hr := h1.2
      rw [show (i + 1 == 0) = false by simp, Bool.false_or, Nat.add_sub_cancel] at hr
      exact rise_slot h0.1 h1.1 hr
    induction d with
    | zero => intro i hi; exact st i hi
    | succ d ih =>
      intro i hi
      have h1 := ih i (by omega)
      have h2 := st (i + d + 1) (by omega)
      show slotK L (p.getD i (0, 0, 0)) < slotK L (p.getD (i + d + 1 + 1) (0, 0, 0))
      omega
  rw [List.pairwise_iff_getElem]
  intro i j hi hj hij
  rw [List.length_map] at hi hj
  have h1 := key (j - i - 1) i (by omega)
  rw [show i + (j - i - 1) + 1 = j by omega] at h1
  simpa [hi, hj] using h1
theorem plan_sub {L : List Scp} {n : Int} {N : Nat} {p : List V3} (h : planB L n N p = true) : (p.map (slotK L)).Sublist (List.range' 0 (m0L L * L.length)) := by
  refine up_sub (K := 0) _ _ _ (plan_up h) fun x hx => ?_
  obtain ⟨y, hy, rfl⟩ := List.mem_map.1 hx
  obtain ⟨i, hi, rfl⟩ := List.getElem_of_mem hy
  obtain ⟨⟨a, b⟩, ⟨c, d⟩, -⟩ := look_parts (planB_at h hi)
  have := (slot_parts (L := L) (x := p[i]) (m := m0L L) (by omega) (by omega)).2.2
  omega
theorem range_zero (K : Nat) : List.range K = List.range' 0 K := List.range_eq_range' ..
/-- P9.11: no plan gains more than twice as much. -/
theorem half_law {L : List Scp} {n : Int} {N : Nat} {lf : List Int} (hl : lf.length = N) (hn : ∀ x ∈ lf, 0 ≤ x) {p : List V3} (hp : planB L n N p = true) : (gaF n N L lf p).2 ≤ 2 * (planF n N L ⟨lf, [], 0⟩ (m0L L)).g := by
  have hL : ∀ c, 0 ≤ Lof lf c := fun c => by
    unfold Lof
    rw [List.getD_eq_getElem?_getD]
    cases hg : lf[c]? with
    | none => simp
    | some y => exact hn y (List.mem_of_getElem? hg)
  have h1 := greedy_half (ok := fun x => lookB L n N x = true) (slot := slotK L) (cov := covL3 n N L) (n := N) (D := Dg n N L) (L := Lof lf) (ss := List.range' 0 (m0L L * L.length)) (p := p) hL (fun s f hf => Dg_best s f hf) (plan_sub hp) (fun x hx => by obtain ⟨i, hi, rfl⟩ := List.getElem_of_mem hx; exact planB_at hp hi)
  rw [gaF_gain]
  have h2 := planK_gain n N L 0 (m0L L * L.length) ⟨lf, [], 0⟩ hl
  rw [← range_zero] at h2
  have h3 : (planF n N L ⟨lf, [], 0⟩ (m0L L)).g = 0 + gain N (Lof lf) (greedy (Dg n N L) (Lof lf) (List.range (m0L L * L.length))) := by
    rw [← planK_is]
    exact h2
  rw [← range_zero] at h1
  omega
end Go.Proofs.YtcclfhdglhbpcaaGreatDoor

/-
  The law SkyHalf, plainly: what the planned looks are and gain.
-/
namespace Go.Proofs.YtcclfhdglhbpcaaGreatDoor
open Go.RowKit Al Half9

theorem planB_iff {L : List Scp} {n : Int} {N : Nat} {p : List V3} : planB L n N p = true ↔ ∀ k (hk : k < p.length), lookB L n N p[k] = true ∧ (0 < k → riseB (p[k - 1]'(by omega)) p[k] = true) := by
  unfold planB planN
  rw [List.all_eq_true]
  constructor
  · intro h k hk
    have h2 := h k (List.mem_range.2 hk)
    unfold planS at h2
    rw [Bool.and_eq_true, show p.getD k (0, 0, 0) = p[k] by simp [hk]] at h2
    refine ⟨h2.1, fun h0 => ?_⟩
    have h3 := h2.2
    rw [show (k == 0) = false by simp; omega, Bool.false_or, show p.getD (k - 1) (0, 0, 0) = p[k - 1]'(by omega) by simp [show k - 1 < p.length by omega]] at h3
    exact h3
  · intro h k hk
    have hk := List.mem_range.1 hk
    obtain ⟨h1, h2⟩ := h k hk
    unfold planS
    rw [Bool.and_eq_true, show p.getD k (0, 0, 0) = p[k] by simp [hk], show p.getD (k - 1) (0, 0, 0) = p[k - 1]'(by omega) by simp [show k - 1 < p.length by omega]]
    refine ⟨h1, ?_⟩
    by_cases h0 : k = 0
    · simp [h0]
    · rw [h2 (by omega), Bool.or_true]
theorem planB_take {L : List Scp} {n : Int} {N : Nat} {p : List V3} (h : planB L n N p = true) (i : Nat) : planB L n N (p.take i) = true := by
  rw [planB_iff] at h ⊢
  intro k hk
  rw [List.length_take] at hk
  have := h k (by omega)
  simpa using this
theorem planB_snoc {L : List Scp} {n : Int} {N : Nat} {p : List V3} {x : V3} (h : planB L n N p = true) (hx : lookB L n N x = true) (hr : ∀ y ∈ p, riseB y x = true) : planB L n N (p ++ [x]) = true := by
  rw [planB_iff] at h ⊢
  intro k hk
  rw [List.length_append, List.length_singleton] at hk
  by_cases hkp : k < p.length
  · have := h k hkp
    rw [List.getElem_append_left hkp]
    refine ⟨this.1, fun h0 => ?_⟩
    rw [List.getElem_append_left (by omega)]
    exact this.2 h0
  · obtain rfl : k = p.length := by omega
    rw [show (p ++ [x])[p.length]'(by simp) = x by simp]
    refine ⟨hx, fun h0 => ?_⟩
    rw [List.getElem_append_left (by omega)]
    exact hr _ (List.getElem_mem (by omega))
theorem slot_rise {L : List Scp} {n : Int} {N : Nat} {a x : V3} (ha : lookB L n N a = true) (hx : lookB L n N x = true) (h : slotK L a < slotK L x) : riseB a x = true := by
  obtain ⟨⟨a1, a2⟩, ⟨a3, a4⟩, -⟩ := look_parts ha
  obtain ⟨⟨b1, b2⟩, ⟨b3, b4⟩, -⟩ := look_parts hx
  unfold riseB
  simp only [Bool.not_eq_true', Bool.or_eq_false_iff, decide_eq_false_iff_not, Bool.and_eq_false_iff]
  have key : ¬ x.1 < a.1 := by
    intro hlt
    have h4 : x.1.toNat + 1 ≤ a.1.toNat := by omega
    have h5 : (x.1.toNat + 1) * L.length ≤ a.1.toNat * L.length := Nat.mul_le_mul_right _ h4
    rw [Nat.succ_mul] at h5
    unfold slotK at h
    omega
  refine ⟨key, ?_⟩
  by_cases he : a.1 = x.1
  · right
    unfold slotK at h
    rw [he] at h
    omega
  · left
    simpa using he
structure PlInv (n : Int) (N : Nat) (L : List Scp) (lf : List Int) (K : Nat) (st : PSt) : Prop where
  ga : gaF n N L lf st.pl = (st.lf, st.g)
  pb : planB L n N st.pl = true
  sl : ∀ x ∈ st.pl, slotK L x < K
  up : ∀ i, i < st.pl.length → (gaF n N L lf (st.pl.take i)).2 < (gaF n N L lf (st.pl.take (i + 1))).2
theorem planK_inv {n : Int} {N : Nat} {L : List Scp} {lf : List Int} : ∀ K, K ≤ m0L L * L.length → PlInv n N L lf K (planK n N L ⟨lf, [], 0⟩ K)
  | 0, _ => ⟨rfl, rfl, fun x h => (by cases h), fun i h => (by cases h)⟩
  | K + 1, hK => by
    have ih := planK_inv (n := n) (N := N) (L := L) (lf := lf) K (by omega)
    rw [planK_succ]
    obtain ⟨st, hst⟩ : ∃ st, planK n N L ⟨lf, [], 0⟩ K = st := ⟨_, rfl⟩
    rw [hst] at ih ⊢
    rcases step_at n N L K st with ⟨hp, c, hc, h2, hs⟩ | ⟨hp, hs⟩
    · have hl0 : 0 < L.length := by
        rcases Nat.eq_zero_or_pos L.length with h0 | h0
        · rw [h0] at hK; omega
        · exact h0
      have hms : K % L.length < L.length := Nat.mod_lt _ hl0
      have hmt : K / L.length < m0L L := Nat.div_lt_of_lt_mul (by rw [Nat.mul_comm]; omega)
      have hgp : 0 < got N (Lof st.lf) (covL3 n N L (((K / L.length : Nat) : Int), ((K % L.length : Nat) : Int), c)) := by omega
      have hlk : lookB L n N (((K / L.length : Nat) : Int), ((K % L.length : Nat) : Int), c) = true := by
        unfold lookB turnB
        simp only
        rw [inB_true.2 ⟨Int.natCast_nonneg _, by omega⟩, inB_true.2 ⟨Int.natCast_nonneg _, by omega⟩, Bool.true_and, Bool.true_and, List.contains_iff_mem]
        exact hc
      have hsk : slotK L (((K / L.length : Nat) : Int), ((K % L.length : Nat) : Int), c) = K := by
        unfold slotK
        simp only [Int.toNat_natCast]
        rw [Nat.mul_comm]
        exact Nat.div_add_mod ..
      have hga : gaF n N L lf (st.pl ++ [(((K / L.length : Nat) : Int), ((K % L.length : Nat) : Int), c)]) = ((takeF true st.lf (coversX n N (scpAt L ((K % L.length : Nat) : Int)) (K / L.length) c)).2, st.g + got N (Lof st.lf) (covL3 n N L (((K / L.length : Nat) : Int), ((K % L.length : Nat) : Int), c))) := by
        rw [gaF_snoc, ih.ga]
        unfold gaS
        simp only
        rw [take_got]
        rfl
      obtain ⟨x, hx⟩ : ∃ x : V3, (((K / L.length : Nat) : Int), ((K % L.length : Nat) : Int), c) = x := ⟨_, rfl⟩
      rw [hx] at hs hlk hsk hga hgp
      rw [hs]
      refine ⟨hga, planB_snoc ih.pb hlk (fun y hy => slot_rise (by obtain ⟨i, hi, rfl⟩ := List.getElem_of_mem hy; exact planB_at ih.pb hi) hlk (by rw [hsk]; exact ih.sl y hy)), fun y hy => ?_, fun i hi => ?_⟩
      · rcases List.mem_append.1 hy with hy | hy
        · have := ih.sl y hy; omega
        · rw [List.mem_singleton.1 hy, hsk]; omega
      · simp only [List.length_append, List.length_singleton] at hi
        show (gaF n N L lf ((st.pl ++ [x]).take i)).2 < (gaF n N L lf ((st.pl ++ [x]).take (i + 1))).2
        by_cases hip : i < st.pl.length
        · rw [List.take_append_of_le_length (by omega), List.take_append_of_le_length (by omega)]
          exact ih.up i hip
        · obtain rfl : i = st.pl.length := by omega
          rw [List.take_append_of_le_length (Nat.le_refl _), List.take_length, List.take_of_length_le (by simp), hga, ih.ga]
          show st.g < st.g + _
          omega
    · rw [hs]
      exact ⟨ih.ga, ih.pb, fun x hx => by have := ih.sl x hx; omega, ih.up⟩
theorem plan_inv (n : Int) (N : Nat) (L : List Scp) (lf : List Int) : PlInv n N L lf (m0L L * L.length) (planF n N L ⟨lf, [], 0⟩ (m0L L)) := by
  rw [← planK_is]
  exact planK_inv _ (Nat.le_refl _)
theorem gaF_sum (n : Int) (N : Nat) (L : List Scp) (p : List V3) (lf : List Int) (g : Int) : (p.foldl (gaS n N L) (lf, g)).2 + (p.foldl (gaS n N L) (lf, g)).1.sum = g + lf.sum := by
  induction p generalizing lf g with
  | nil => rfl
  | cons x t ih =>
    rw [List.foldl_cons]
    have e : gaS n N L (lf, g) x = ((takeF true lf (coversX n N (scpAt L x.2.1) x.1.toNat x.2.2)).2, g + (takeF true lf (coversX n N (scpAt L x.2.1) x.1.toNat x.2.2)).1) := rfl
    have := takeF_sum lf (coversX n N (scpAt L x.2.1) x.1.toNat x.2.2)
    rw [e, ih]
    omega
/-- The sum of the weights of some cells. -/
def totF (ws l : List Int) : Int := (l.map fun c => ws.getD c.toNat 0).sum
theorem sum_set (o : List Int) (k : Nat) (v : Int) (h : k < o.length) : (o.set k v).sum + o.getD k 0 = o.sum + v := by
  induction o generalizing k with
  | nil => cases h
  | cons a t ih =>
    cases k with
    | zero => simp; omega
    | succ k =>
      have := ih k (by simpa using h)
      simp only [List.set_cons_succ, List.sum_cons, List.getD_cons_succ]
      omega
theorem prize_sum (ws : List Int) : ∀ (l o : List Int), l.Pairwise (· < ·) → (∀ c ∈ l, 0 ≤ c ∧ c.toNat < o.length ∧ o.getD c.toNat 0 = 0) → (prizeF ws o l).sum = o.sum + totF ws l
  | [], o, _, _ => by show o.sum = o.sum + 0; omega
  | c :: t, o, hp, h => by
    rw [List.pairwise_cons] at hp
    obtain ⟨h0, h1, h2⟩ := h c (List.mem_cons_self ..)
    have hs := sum_set o c.toNat (ws.getD c.toNat 0) h1
    rw [prizeF, prize_sum ws t _ hp.2 (fun d hd => ?_)]
    · show _ = o.sum + (ws.getD c.toNat 0 + totF ws t)
      omega
    · obtain ⟨a, b, e⟩ := h d (List.mem_cons_of_mem _ hd)
      have := hp.1 d hd
      refine ⟨a, by rw [List.length_set]; exact b, ?_⟩
      have hne : c.toNat ≠ d.toNat := by omega
      rw [List.getD_eq_getElem?_getD, List.getElem?_set_ne hne, ← List.getD_eq_getElem?_getD]
      exact e
theorem incB_up {many : Int} : ∀ {last : Int} {l : List Int}, incB many last l = true → l.Pairwise (· < ·)
  | _, [], _ => .nil
  | last, c :: t, h => by
    rw [incB] at h
    simp only [Bool.and_eq_true] at h
    exact List.pairwise_cons.2 ⟨fun x hx => (incB_in h.2 x hx).1, incB_up h.2⟩
theorem sum_rep (k : Nat) : (List.replicate k (0 : Int)).sum = 0 := by
  induction k with
  | zero => rfl
  | succ k ih => rw [List.replicate_succ, List.sum_cons, ih]; rfl
theorem lf0_sum {n : Int} {ws sm : List Int} (h : weighedB n ws sm = true) : (lf0 ws sm).sum = totF ws sm := by
  obtain ⟨q1, q2, q3⟩ := weighedB_yes h
  unfold weighedB at h
  simp only [Bool.and_eq_true] at h
  unfold lf0
  rw [prize_sum ws sm _ (incB_up h.2) (fun c hc => ?_), sum_rep]
  · omega
  · have := q3 c hc
    refine ⟨this.1, by rw [List.length_replicate]; omega, ?_⟩
    rw [List.getD_eq_getElem?_getD, List.getElem?_replicate]
    split <;> rfl
/-- What SkyHalf asks for, in plain words. -/
theorem half_facts {L : List Scp} {n : Int} {N : Nat} {ws sm : List Int} (hN : (N : Int) = 6 * (n * n)) (h : gE L n ws sm = 0) :
    gainE L n N ws sm (planP L n N ws sm).pl = 0 ∧ gainV L n N ws sm (planP L n N ws sm).pl = (planP L n N ws sm).g ∧
    (∀ i, i ≤ (planP L n N ws sm).pl.length → gainE L n N ws sm ((planP L n N ws sm).pl.take i) = 0) ∧ gainV L n N ws sm ((planP L n N ws sm).pl.take 0) = 0 ∧
    (∀ i, i < (planP L n N ws sm).pl.length → gainV L n N ws sm ((planP L n N ws sm).pl.take i) < gainV L n N ws sm ((planP L n N ws sm).pl.take (i + 1))) ∧
    (∀ p, gainE L n N ws sm p = 0 → gainV L n N ws sm p ≤ 2 * (planP L n N ws sm).g) ∧ (planP L n N ws sm).g ≤ totF ws sm ∧ 0 ≤ (planP L n N ws sm).g ∧ (planP L n N ws sm).g ≤ 384000 := by
  obtain ⟨hg, hw⟩ := gE_ok h
  obtain ⟨-, h1, h8⟩ := gW_ok hg
  obtain ⟨hwN, hok⟩ := lf0_ok h1 h8 hN hw
  have hpe : planP L n N ws sm = planF n N L ⟨lf0 ws sm, [], 0⟩ (m0L L) := by unfold planP; rw [if_pos h]
  rw [hpe]
  have inv := plan_inv n N L (lf0 ws sm)
  have hE : ∀ p, planB L n N p = true → gainE L n N ws sm p = 0 := fun p hp => by unfold gainE; rw [h, hp]; rfl
  have hV : ∀ p, planB L n N p = true → gainV L n N ws sm p = (gaF n N L (lf0 ws sm) p).2 := fun p hp => by unfold gainV; rw [if_pos (hE p hp)]
  have hsum := gaF_sum n N L (planF n N L ⟨lf0 ws sm, [], 0⟩ (m0L L)).pl (lf0 ws sm) 0
  have hgo := gaF_ok (n := n) (L := L) hok (planF n N L ⟨lf0 ws sm, [], 0⟩ (m0L L)).pl
  have hga := inv.ga
  have hga' : ((planF n N L ⟨lf0 ws sm, [], 0⟩ (m0L L)).pl.foldl (gaS n N L) (lf0 ws sm, 0)) = _ := hga
  rw [hga'] at hsum
  rw [hga] at hgo
  have hn := (sum_nn hgo.lf).1
  have h0 := hgo.g0
  have hs := hgo.sm
  simp only at hsum hn h0 hs
  refine ⟨hE _ inv.pb, by rw [hV _ inv.pb, inv.ga], fun i _ => hE _ (planB_take inv.pb i), ?_, fun i hi => ?_, fun p hp => ?_, ?_, h0, by omega⟩
  · rw [hV _ (planB_take inv.pb 0), List.take_zero]
    rfl
  · rw [hV _ (planB_take inv.pb _), hV _ (planB_take inv.pb _)]
    exact inv.up i hi
  · have hpb : planB L n N p = true := by
      unfold gainE at hp
      rw [h] at hp
      cases hb : planB L n N p with
      | true => rfl
      | false => rw [hb] at hp; exact absurd hp (by decide)
    rw [hV p hpb]
    exact half_law hok.ln (fun x hx => (hok.lf x hx).1) hpb
  · rw [← lf0_sum hw]
    omega
end Go.Proofs.YtcclfhdglhbpcaaGreatDoor
