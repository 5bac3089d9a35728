/-
  Plainly: the cells that fit are those on the rings of all pairs (for SkyAllRings).
-/
import Derived.Test.YtcclfhdglhbpcaaGreatDoorW33
namespace Go.Proofs.YtcclfhdglhbpcaaGreatDoor
open Go.RowKit Al Ring9

theorem sub_far {p q d : V3} (hp : Plc9 p) (hq : Plc9 q) (hd : Dir9 d) : (dotI p d - dotI q d) * (dotI p d - dotI q d) ≤ 51539607552 * dotI d d := by
  have h := cauchy (p.1 - q.1) (p.2.1 - q.2.1) (p.2.2 - q.2.2) d.1 d.2.1 d.2.2
  have e : (p.1 - q.1) * d.1 + (p.2.1 - q.2.1) * d.2.1 + (p.2.2 - q.2.2) * d.2.2 = dotI p d - dotI q d := by
    unfold dotI
    rw [Int.sub_mul, Int.sub_mul, Int.sub_mul]
    omega
  rw [e] at h
  have a := sqb (b := 131072) (x := p.1 - q.1) (by have := hp.a; have := hq.a; omega) (by have := hp.a; have := hq.a; omega)
  have b := sqb (b := 131072) (x := p.2.1 - q.2.1) (by have := hp.b; have := hq.b; omega) (by have := hp.b; have := hq.b; omega)
  have c := sqb (b := 131072) (x := p.2.2 - q.2.2) (by have := hp.c; have := hq.c; omega) (by have := hp.c; have := hq.c; omega)
  have h2 : ((p.1 - q.1) * (p.1 - q.1) + (p.2.1 - q.2.1) * (p.2.1 - q.2.1) + (p.2.2 - q.2.2) * (p.2.2 - q.2.2)) * dotI d d ≤ 51539607552 * dotI d d := Int.mul_le_mul_of_nonneg_right (by omega) (by have := (dd_is hd).2.1; omega)
  exact Int.le_trans h h2
/-- A number that is too far away is no difference. -/
theorem far_no {a b : Site} {d : V3} (ha : Plc9 a.p) (hb : Plc9 b.p) (hd : Dir9 d) {n slack : Int} (hn : -4000000000000 ≤ n) (hn' : n ≤ 4000000000000) (hf : n < -1099511627776 ∨ 1099511627776 < n) (hs : 0 ≤ slack) (hs' : slack ≤ 131072) : diffB a b d n slack = false := by
  rw [diff_is ha hb hd hn hn' hs (by omega)]
  have hk := sub_far ha hb hd
  obtain ⟨k1, k2⟩ := ssq_in (dotI a.p d - dotI b.p d)
  have hD := (dd_is hd).2.1
  obtain ⟨D, hDD⟩ : ∃ D, dotI d d = D := ⟨_, rfl⟩
  rw [hDD] at hk hD ⊢
  rcases hf with h | h
  · rw [show clampB 1048576 (n + slack) = -1048576 by unfold clampB; omega, show ssq (-1048576) = -1099511627776 by decide, Bool.and_eq_false_iff]
    exact .inr (decide_eq_false (by omega))
  · rw [show clampB 1048576 (n - slack) = 1048576 by unfold clampB; omega, show ssq 1048576 = 1099511627776 by decide, Bool.and_eq_false_iff]
    exact .inl (decide_eq_false (by omega))
/-- The pairs of arrivals, in order. -/
def pairsL (m : Nat) : List (Nat × Nat) := (List.range m).flatMap fun i => (List.range i).map fun k => (i, k)
def pairsN (i k : Nat) : List (Nat × Nat) := pairsL i ++ (List.range k).map fun k => (i, k)
theorem pairsN_zero (i : Nat) : pairsN i 0 = pairsL i := by unfold pairsN; simp
theorem pairsN_succ (i k : Nat) : pairsN i (k + 1) = pairsN i k ++ [(i, k)] := by
  unfold pairsN
  rw [List.range_succ, List.map_append, List.append_assoc]
  rfl
theorem pairsL_succ (i : Nat) : pairsN i i = pairsL (i + 1) := by
  unfold pairsN pairsL
  rw [List.range_succ, List.flatMap_append]
  simp
theorem pairsL_mem {m i k : Nat} : (i, k) ∈ pairsL m ↔ i < m ∧ k < i := by
  unfold pairsL
  simp only [List.mem_flatMap, List.mem_map, List.mem_range, Prod.mk.injEq]
  constructor
  · rintro ⟨a, ha, b, hb, rfl, rfl⟩; exact ⟨ha, hb⟩
  · rintro ⟨h1, h2⟩; exact ⟨i, h1, k, h2, rfl, rfl⟩
theorem pairsL_len (m : Nat) : (pairsL m).length ≤ m * m := by
  induction m with
  | zero => simp [pairsL]
  | succ m ih =>
    rw [← pairsL_succ]
    unfold pairsN
    simp only [List.length_append, List.length_map, List.length_range]
    have : (m + 1) * (m + 1) = m * m + 2 * m + 1 := by rw [Nat.add_mul, Nat.mul_add]; omega
    omega
/-- On how many rings of these pairs a direction lies. -/
def onPairs (S : List Site) (t : List Trg) (d : V3) (P : List (Nat × Nat)) : Nat := P.countP fun p => pairB S d (t.getD p.1 (0, 0, 0)) (t.getD p.2 (0, 0, 0))
theorem onPairs_snoc (S : List Site) (t : List Trg) (d : V3) (P : List (Nat × Nat)) (p : Nat × Nat) : onPairs S t d (P ++ [p]) = onPairs S t d P + (if pairB S d (t.getD p.1 (0, 0, 0)) (t.getD p.2 (0, 0, 0)) then 1 else 0) := by
  unfold onPairs
  rw [List.countP_append, List.countP_singleton]
theorem onPairs_all (S : List Site) (t : List Trg) (d : V3) : onPairs S t d (pairsL t.length) = (pairsL t.length).length ↔ fitB S t d = true := by
  unfold onPairs
  rw [List.countP_eq_length, fitB_iff]
  constructor
  · intro h k hk j hj
    have h1 := h (k, j) (pairsL_mem.2 ⟨hk, hj⟩)
    rw [show t.getD k (0, 0, 0) = t[k] by simp [hk], show t.getD j (0, 0, 0) = t[j]'(by omega) by simp [show j < t.length by omega]] at h1
    exact h1
  · rintro h ⟨k, j⟩ hp
    obtain ⟨hk, hj⟩ := pairsL_mem.1 hp
    rw [show t.getD k (0, 0, 0) = t[k] by simp [hk], show t.getD j (0, 0, 0) = t[j]'(by omega) by simp [show j < t.length by omega]]
    exact h k hk j hj
/-- How often each cell was counted. -/
def manyF (S : List Site) (t : List Trg) (n : Int) (N : Nat) (P : List (Nat × Nat)) : List Int := (List.range N).map fun c : Nat => ((onPairs S t (dirV n c) P : Nat) : Int)
theorem manyF_nil (S : List Site) (t : List Trg) (n : Int) (N : Nat) : manyF S t n N [] = List.replicate N 0 := by
  unfold manyF onPairs
  simp [List.map_const']
/-- Where the first of a ring's cells were counted. -/
def manyJ (S : List Site) (t : List Trg) (n : Int) (N : Nat) (P : List (Nat × Nat)) (r : List Int) : List Int := (List.range N).map fun c : Nat => ((onPairs S t (dirV n c) P : Nat) : Int) + (if (c : Int) ∈ r then 1 else 0)
theorem manyJ_nil (S : List Site) (t : List Trg) (n : Int) (N : Nat) (P : List (Nat × Nat)) : manyJ S t n N P [] = manyF S t n N P := by
  unfold manyJ manyF
  simp
theorem manyJ_snoc (S : List Site) (t : List Trg) (n : Int) (N : Nat) (P : List (Nat × Nat)) (r : List Int) {c : Nat} (hc : c < N) (hr : (c : Int) ∉ r) : (manyJ S t n N P r).set c ((manyJ S t n N P r).getD c 0 + 1) = manyJ S t n N P (r ++ [(c : Int)]) := by
  unfold manyJ
  apply List.ext_getElem
  · simp
  · intro i h1 h2
    simp only [List.length_set, List.length_map, List.length_range] at h1
    rw [List.getElem_set]
    by_cases h : c = i
    · subst h
      rw [if_pos rfl]
      simp [hc, hr]
    · rw [if_neg h]
      simp
      simp only [show ¬ ((i : Int) = (c : Int)) by omega, or_false]
theorem manyJ_end (S : List Site) (t : List Trg) (n : Int) (N : Nat) (P : List (Nat × Nat)) (p : Nat × Nat) : manyJ S t n N P (pickL (fun d => pairB S d (t.getD p.1 (0, 0, 0)) (t.getD p.2 (0, 0, 0))) (cellsL n N)) = manyF S t n N (P ++ [p]) := by
  unfold manyJ manyF
  apply List.map_congr_left
  intro c hc
  have hc := List.mem_range.1 hc
  rw [onPairs_snoc]
  by_cases h : pairB S (dirV n c) (t.getD p.1 (0, 0, 0)) (t.getD p.2 (0, 0, 0)) = true
  · rw [if_pos (pick_mem.2 ⟨by omega, by omega, h⟩), if_pos h]
    omega
  · rw [if_neg (fun hm => h (pick_mem.1 hm).2.2), if_neg h]
    omega
theorem pick_nodup (is : V3 → Bool) (n : Int) (N : Nat) : (pickL is (cellsL n N)).Nodup := by
  have h : ((List.range N).map fun c : Nat => (c : Int)).Nodup := by
    rw [List.nodup_iff_pairwise_ne, List.pairwise_map]
    exact List.Pairwise.imp (fun h e => h (by omega)) List.nodup_range
  have e : (cellsL n N).map (·.1) = (List.range N).map fun c : Nat => (c : Int) := by unfold cellsL; rw [List.map_map]; rfl
  rw [← e] at h
  unfold pickL
  exact h.sublist (List.Sublist.map _ List.filter_sublist)
/-- Where nothing is wrong with a pair, or it is too far apart. -/
theorem arr_parts {m : Nat} {t : List Trg} (h : arrB m t = true) : 2 ≤ t.length ∧ (∀ x ∈ t, ArrOk m x) ∧ ∀ k (hk : k < t.length), 0 < k → (t[k - 1]'(by omega)).1 < t[k].1 := by
  unfold arrB at h
  rw [Bool.and_eq_true] at h
  refine ⟨of_decide_eq_true h.2, arr_ok h.1, ?_⟩
  intro k hk h0
  have h1 := List.all_eq_true.1 h.1 k (by simpa using hk)
  unfold arrStep at h1
  rw [show t.getD k (0, 0, 0) = t[k] by simp [hk], show t.getD (k - 1) (0, 0, 0) = t[k - 1]'(by omega) by simp [show k - 1 < t.length by omega]] at h1
  simp only [Bool.and_eq_true, Bool.or_eq_true] at h1
  rcases h1.2.1 with h2 | h2
  · have : k = 0 := by simpa using h2
    omega
  · exact of_decide_eq_true h2
theorem arr_rise {m : Nat} {t : List Trg} (h : arrB m t = true) : ∀ i (hi : i < t.length) k (hk : k < i), (t[k]'(by omega)).1 < t[i].1 := by
  obtain ⟨_, _, h3⟩ := arr_parts h
  intro i
  induction i with
  | zero => intro hi k hk; omega
  | succ i ih =>
    intro hi k hk
    have h4 := h3 (i + 1) hi (by omega)
    simp only [Nat.add_sub_cancel] at h4
    by_cases hki : k = i
    · subst hki; exact h4
    · have := ih (by omega) k (by omega)
      omega
theorem arr_few {m : Nat} {t : List Trg} (h : arrB m t = true) : t.length ≤ m := by
  obtain ⟨h2, h1, _⟩ := arr_parts h
  have key : ∀ i (hi : i < t.length), (i : Int) ≤ t[i].1 := by
    intro i
    induction i with
    | zero => intro hi; exact (h1 _ (List.getElem_mem hi)).s0
    | succ i ih =>
      intro hi
      have a := ih (by omega)
      have b := arr_rise h (i + 1) hi i (by omega)
      omega
  have a := key (t.length - 1) (by omega)
  have b := (h1 _ (List.getElem_mem (show t.length - 1 < t.length by omega))).s1
  omega
/-- Two arrivals in order: their ring is asked for rightly, unless they are too far apart; then nothing fits. -/
theorem pair_ring {L : List NSi} {t : List Trg} (h : arrB L.length t = true) {i k : Nat} (hi : i < t.length) (hk : k < i) :
    rgOk L.length (t[k]'(by omega)).1 t[i].1 (t[i].2.1 - (t[k]'(by omega)).2.1) (t[i].2.2 + (t[k]'(by omega)).2.2) = inB (t[i].2.1 - (t[k]'(by omega)).2.1) (-1099511627776) 1099511627776 := by
  obtain ⟨_, h1, _⟩ := arr_parts h
  have a := h1 _ (List.getElem_mem hi)
  have b := h1 _ (List.getElem_mem (show k < t.length by omega))
  have c := arr_rise h i hi k hk
  unfold rgOk
  have a0 := a.s0
  have a1 := a.s1
  have a2 := a.k0
  have a3 := a.k1
  have b0 := b.s0
  have b1 := b.s1
  have b2 := b.k0
  have b3 := b.k1
  rw [inB_true.2 ⟨b0, by omega⟩, inB_true.2 ⟨a0, by omega⟩, inB_true.2 (show 0 ≤ t[i].2.2 + (t[k]'(by omega)).2.2 ∧ t[i].2.2 + (t[k]'(by omega)).2.2 ≤ 131072 by omega)]
  rw [show ((t[k]'(by omega)).1 == t[i].1) = false by rw [beq_eq_false_iff_ne]; omega]
  simp
theorem far_none {L : List NSi} {n : Int} {t : List Trg} {N : Nat} (hN : (N : Int) = 6 * (n * n)) (hg : netG L n = 0) (h : arrB L.length t = true) {i k : Nat} (hi : i < t.length) (hk : k < i) (hf : inB (t[i].2.1 - (t[k]'(by omega)).2.1) (-1099511627776) 1099511627776 = false) : pickL (fitB (sites L) t) (cellsL n N) = [] := by
  obtain ⟨_, h1, _⟩ := arr_parts h
  have a := h1 _ (List.getElem_mem hi)
  have b := h1 _ (List.getElem_mem (show k < t.length by omega))
  obtain ⟨_, _, n1, n8⟩ := netG_ok hg
  have hS : (sites L).length = L.length := by simp [sites]
  rw [List.eq_nil_iff_forall_not_mem]
  intro c hc
  obtain ⟨c0, c1, c2⟩ := pick_mem.1 hc
  have ht : thereB n c = true := by unfold thereB; rw [inB_true.2 ⟨n1, n8⟩, inB_true.2 ⟨c0, by omega⟩]; rfl
  have hd := dir9 ht
  have hp := (fitB_iff.1 c2) i hi k hk
  have hf := inB_false.1 hf
  have a0 := a.s0
  have a1 := a.s1
  have a2 := a.k0
  have a3 := a.k1
  have a4 := a.t0
  have a5 := a.t1
  have b0 := b.s0
  have b1 := b.s1
  have b2 := b.k0
  have b3 := b.k1
  have b4 := b.t0
  have b5 := b.t1
  obtain ⟨p, h5, _, e5⟩ := siteAt_int (S := sites L) a0 (by omega)
  obtain ⟨q, h6, _, e6⟩ := siteAt_int (S := sites L) b0 (by omega)
  unfold pairB at hp
  rw [e5, e6, far_no (net_site hg (List.getElem_mem h6)) (net_site hg (List.getElem_mem h5)) hd (by omega) (by omega) (by omega) (by omega) (by omega)] at hp
  cases hp
end Go.Proofs.YtcclfhdglhbpcaaGreatDoor

/-
  Plainly: the program's differences of two sites are the specification's (for SkyRings).
-/
namespace Go.Proofs.YtcclfhdglhbpcaaGreatDoor
open Go.RowKit Al Ring9

/-- What the specification's on says. -/
def onS (p q d : V3) (n sl : Int) : Bool := decide (rootedS (clampB 16777216 (n - sl)) (dotI d d) (dotI p d - dotI q d) ≤ 0) && decide (0 ≤ rootedS (clampB 16777216 (n + sl)) (dotI d d) (dotI p d - dotI q d))
theorem on_same {a b : Site} {d : V3} (ha : Plc9 a.p) (hb : Plc9 b.p) (hd : Dir9 d) {n slack : Int} (hn : -4000000000000 ≤ n) (hn' : n ≤ 4000000000000) (hs : 0 ≤ slack) (hs' : slack ≤ 1000000) : diffB a b d n slack = onS a.p b.p d n slack := by
  rw [diff_is ha hb hd hn hn' hs hs']
  have hk := sub_far ha hb hd
  have hD := (dd_is hd).2.1
  unfold onS
  obtain ⟨D, hDD⟩ : ∃ D, dotI d d = D := ⟨_, rfl⟩
  obtain ⟨x, hx⟩ : ∃ x, dotI a.p d - dotI b.p d = x := ⟨_, rfl⟩
  rw [hDD, hx] at hk
  rw [hDD] at hD
  rw [hDD, hx]
  have A := fun m => above_rooted (k := x) (d := D) (m := m) (b := 1048576) (B := 16777216) hD (by omega) (by omega) (by omega)
  congr 1
  · exact decide_eq_decide.2 (by rw [← (A _).1]; omega)
  · exact decide_eq_decide.2 (by rw [← (A _).2]; omega)
end Go.Proofs.YtcclfhdglhbpcaaGreatDoor
