/-
  Plain: the notices of a board settle as its Force says, and have no forks.
-/
import Derived.Test.YtohfofecbdfkgaaGreatDoorU26
import Derived.Test.YtohfofecbdfkgaaGreatDoorU20
namespace Go.Proofs.YtohfofecbdfkgaaGreatDoor
open Go.RowKit Al

theorem valid_all {ks : List (Int × Int)} {q : Int} {M : List It} (hv : ∀ x ∈ M, noticeE ks q x.n = 0) : validN ks q M = M := by
  unfold validN
  exact List.filter_eq_self.2 fun x hx => by simp [hv x hx]
section
variable {M : List It} {m : ByteArray}
/-- The alerts of an event of a board's notices: number k has version k + 1. -/
theorem ev_chn (hc : Chained (M.map (·.n))) : Chn ((M.filter (ofEv m)).map (·.n.a)) := by
  rw [hist_of]
  exact hc _
theorem ev_ver (hc : Chained (M.map (·.n))) {k : Nat} (hk : k < (M.filter (ofEv m)).length) : ((M.filter (ofEv m))[k]).n.a.ver = k + 1 := by
  have h := (ev_chn (m := m) hc).ver k (by simpa using hk)
  simpa using h
theorem ev_same (hc : Chained (M.map (·.n))) {x y : It} (hx : x ∈ M.filter (ofEv m)) (hy : y ∈ M.filter (ofEv m)) (hv : x.n.a.ver = y.n.a.ver) : x = y := by
  obtain ⟨i, hi, rfl⟩ := List.getElem_of_mem hx
  obtain ⟨j, hj, rfl⟩ := List.getElem_of_mem hy
  rw [ev_ver hc hi, ev_ver hc hj] at hv
  obtain rfl : i = j := by omega
  rfl
theorem ev_disp (hc : Chained (M.map (·.n))) (hok : ∀ x ∈ M, okA x.n.a = true) : disp (M.filter (ofEv m)) (M.filter (ofEv m)).length = false := by
  have hok2 : ∀ x ∈ M.filter (ofEv m), okA x.n.a = true := fun x hx => hok x (List.mem_filter.1 hx).1
  cases hd : disp (M.filter (ofEv m)) (M.filter (ofEv m)).length with
  | false => rfl
  | true =>
    obtain ⟨v, h2⟩ := (disp_texts hok2).1 hd
    obtain ⟨s, hs, t, ht, hne⟩ := (two_len (textsV_nodup _ v)).1 h2
    obtain ⟨x, hx, e1, e2⟩ := mem_textsV.1 hs
    obtain ⟨y, hy, e3, e4⟩ := mem_textsV.1 ht
    have := ev_same hc hx hy (e1.trans e3.symm)
    rw [this] at e2
    exact absurd (e2.symm.trans e4) hne
theorem ev_last (hne : 0 < (M.filter (ofEv m)).length) : lastOf (M.map (·.n)) m.data.toList = some ((M.filter (ofEv m))[(M.filter (ofEv m)).length - 1]'(by omega)).n.a := by
  rw [lastOf_hist, ← hist_of, List.getLast?_map, List.getLast?_eq_getElem?, List.getElem?_eq_getElem (by omega)]
  rfl
theorem agree_ev (hc : Chained (M.map (·.n))) (hok : ∀ x ∈ M, okA x.n.a = true) (hne : 0 < (M.filter (ofEv m)).length) :
    ((forceR (M.map (·.n)) m.data.toList).2 = 107 ∧ standS m (M.filter (ofEv m)) = ⟨m, 2, 0, 0⟩) ∨ ∃ a, forceR (M.map (·.n)) m.data.toList = (a, 0) ∧ okA a = true ∧ standS m (M.filter (ofEv m)) = ⟨m, 1, a.ver, digA a⟩ := by
  have hl := ev_last hne
  obtain ⟨x, hx⟩ : ∃ x, x = (M.filter (ofEv m))[(M.filter (ofEv m)).length - 1]'(by omega) := ⟨_, rfl⟩
  rw [← hx] at hl
  have hmem : x ∈ M.filter (ofEv m) := by rw [hx]; exact List.getElem_mem _
  have hokx := hok x (List.mem_filter.1 hmem).1
  have hd := ev_disp (m := m) hc hok
  unfold forceR
  rw [hl]
  cases hw : x.n.a.wd with
  | true =>
    refine .inl ⟨by simp [hw], standS_wd (List.any_eq_true.2 ⟨x, hmem, hw⟩)⟩
  | false =>
    refine .inr ⟨x.n.a, by simp [hw], hokx, ?_⟩
    have hnw : (M.filter (ofEv m)).any (fun x => x.n.a.wd) = false := by
      cases ha : (M.filter (ofEv m)).any (fun x => x.n.a.wd) with
      | false => rfl
      | true =>
        obtain ⟨y, hy, e⟩ := List.any_eq_true.1 ha
        obtain ⟨i, hi, rfl⟩ := List.getElem_of_mem hy
        by_cases hi2 : i + 1 < (M.filter (ofEv m)).length
        · have h1 := (ev_chn (m := m) hc).wd i (by simpa using hi2)
          have h2 : ((M.filter (ofEv m))[i]).n.a.wd = false := by simpa using h1
          rw [h2] at e
          cases e
        · obtain rfl : i = (M.filter (ofEv m)).length - 1 := by omega
          rw [← hx, hw] at e
          cases e
    obtain ⟨y, hy, e, hmax⟩ := standS_force (m := m) hnw hd hne
    have hyx : y = x := by
      refine ev_same hc hy hmem (Int.le_antisymm ?_ (hmax x hmem))
      obtain ⟨i, hi, rfl⟩ := List.getElem_of_mem hy
      rw [ev_ver hc hi, hx, ev_ver hc]
      omega
    rw [e, hyx]
end
/-- How the notices of a board settle. -/
theorem agree_st {ks : List (Int × Int)} {q : Int} {M : List It} (hv : ∀ x ∈ M, noticeE ks q x.n = 0) (hc : Chained (M.map (·.n))) {b : Std} (hb : b ∈ settleS ks q M) :
    ((forceR (M.map (·.n)) b.ev.data.toList).2 = 107 ∧ b.st = 2 ∧ b.ver = 0) ∨ ∃ a, forceR (M.map (·.n)) b.ev.data.toList = (a, 0) ∧ okA a = true ∧ b.st = 1 ∧ b.ver = a.ver ∧ b.dig = digA a := by
  have hok : ∀ x ∈ M, okA x.n.a = true := fun x hx => (noticeE_zero (hv x hx)).1
  unfold settleS at hb
  rw [valid_all hv] at hb
  obtain ⟨m, hm, rfl⟩ := List.mem_map.1 hb
  rw [standS_ev]
  rcases agree_ev hc hok (evW_some hm) with ⟨h1, h2⟩ | ⟨a, h1, h2, h3⟩
  · exact .inl ⟨h1, by rw [h2], by rw [h2]⟩
  · exact .inr ⟨a, h1, h2, by rw [h3], by rw [h3], by rw [h3]⟩
theorem agree_forks {ks : List (Int × Int)} {q : Int} {M : List It} (hv : ∀ x ∈ M, noticeE ks q x.n = 0) (hc : Chained (M.map (·.n))) : forksS ks q M = [] := by
  unfold forksS
  rw [valid_all hv]
  refine List.flatMap_eq_nil_iff.2 fun m _ => ?_
  unfold forksE
  refine List.flatMap_eq_nil_iff.2 fun v _ => ?_
  unfold forkAt
  rw [if_neg]
  intro hp
  obtain ⟨x, hx, y, hy, e⟩ := (pairAny_mem (splitV_comm v) (splitV_self v)).1 hp
  unfold splitV at e
  simp only [Bool.and_eq_true, beq_iff_eq, Bool.not_eq_true'] at e
  have hxy := ev_same hc hx hy (e.1.1.trans e.1.2.symm)
  rw [hxy, sameB_refl] at e
  cases e.2
/-- What a board takes is valid. -/
theorem post_valid {ks : List (Int × Int)} {q : Int} {ns : List Ntc} (h : ∀ n ∈ ns, noticeE ks q n = 0) (n : Ntc) : ∀ z ∈ postN ks q ns n, noticeE ks q z = 0 := by
  intro z hz
  unfold postN at hz
  split at hz
  · rename_i he
    rcases List.mem_append.1 hz with hz | hz
    · exact h z hz
    · rw [List.mem_singleton.1 hz]
      unfold postE at he
      split at he
      · rename_i h1
        exact h1
      · exact he
  · exact h z hz
theorem post_len (ks : List (Int × Int)) (q : Int) (ns : List Ntc) (n : Ntc) : (postN ks q ns n).length ≤ ns.length + 1 := by
  unfold postN
  split <;> simp
end Go.Proofs.YtohfofecbdfkgaaGreatDoor
