/-
  Plain: what has stood never stands for less when further notices come.
-/
import Derived.Test.YtohfofecbdfkgaaGreatDoorU25
namespace Go.Proofs.YtohfofecbdfkgaaGreatDoor
open Go.RowKit Al

theorem standS_wd {m : ByteArray} {L : List It} (h : L.any (fun x => x.n.a.wd) = true) : standS m L = ⟨m, 2, 0, 0⟩ := by unfold standS; rw [if_pos h]
theorem standS_disp {m : ByteArray} {L : List It} (h : L.any (fun x => x.n.a.wd) = false) (hd : disp L L.length = true) : standS m L = ⟨m, 3, 0, 0⟩ := by unfold standS; rw [if_neg (by simp [h]), if_pos hd]
theorem standS_force {m : ByteArray} {L : List It} (h : L.any (fun x => x.n.a.wd) = false) (hd : disp L L.length = false) (hne : 0 < L.length) : ∃ x ∈ L, standS m L = ⟨m, 1, x.n.a.ver, digA x.n.a⟩ ∧ ∀ y ∈ L, y.n.a.ver ≤ x.n.a.ver := by
  obtain ⟨x, e, hx, hx2⟩ := best_spec hne
  refine ⟨x, hx, ?_, hx2⟩
  unfold standS
  rw [if_neg (by simp [h]), if_neg (by simp [hd]), e]
theorem standS_ev (m : ByteArray) (L : List It) : (standS m L).ev = m := by
  unfold standS
  split
  · rfl
  · split
    · rfl
    · split <;> rfl
theorem any_sub {α : Type} {p : α → Bool} {L M : List α} (h : ∀ x ∈ L, x ∈ M) (ha : M.any p = false) : L.any p = false := by
  cases hl : L.any p with
  | false => rfl
  | true =>
    obtain ⟨x, hx, e⟩ := List.any_eq_true.1 hl
    rw [List.any_eq_true.2 ⟨x, h x hx, e⟩] at ha
    cases ha
theorem disp_sub {L M : List It} (h : ∀ x ∈ L, x ∈ M) (hok : ∀ x ∈ M, okA x.n.a = true) (ha : disp M M.length = false) : disp L L.length = false := by
  cases hl : disp L L.length with
  | false => rfl
  | true =>
    obtain ⟨v, hv⟩ := (disp_texts (fun x hx => hok x (h x hx))).1 hl
    obtain ⟨s, hs, t, ht, hne⟩ := (two_len (textsV_nodup L v)).1 hv
    obtain ⟨x, hx, e1, e2⟩ := mem_textsV.1 hs
    obtain ⟨y, hy, e3, e4⟩ := mem_textsV.1 ht
    rw [(disp_texts hok).2 ⟨v, (two_len (textsV_nodup M v)).2 ⟨s, mem_textsV.2 ⟨x, h x hx, e1, e2⟩, t, mem_textsV.2 ⟨y, h y hy, e3, e4⟩, hne⟩⟩] at ha
    cases ha
/-- What may not be: an event that stands for less. -/
def lessStd (a b : Std) : Bool := (a.st == 2 && !(b.st == 2)) || (a.st == 3 && b.st == 1) || (b.st == 1 && decide (b.ver < a.ver))
theorem stays {m : ByteArray} {L M : List It} (h : ∀ x ∈ L, x ∈ M) (hok : ∀ x ∈ M, okA x.n.a = true) (hne : 0 < L.length) : lessStd (standS m L) (standS m M) = false := by
  have hne2 : 0 < M.length := List.length_pos_of_mem (h _ (List.getElem_mem hne))
  cases hw : M.any (fun x => x.n.a.wd) with
  | true => rw [standS_wd hw]; unfold lessStd; simp
  | false =>
    have hw2 := any_sub h hw
    cases hd : disp M M.length with
    | true =>
      rw [standS_disp hw hd]
      cases hd2 : disp L L.length with
      | true => rw [standS_disp hw2 hd2]; rfl
      | false =>
        obtain ⟨x, hx, e, _⟩ := standS_force (m := m) hw2 hd2 hne
        rw [e]
        unfold lessStd
        simp
    | false =>
      have hd2 := disp_sub h hok hd
      obtain ⟨x, hx, e, _⟩ := standS_force (m := m) hw2 hd2 hne
      obtain ⟨y, hy, e2, hy2⟩ := standS_force (m := m) hw hd hne2
      rw [e, e2]
      unfold lessStd
      have := hy2 x (h x hx)
      simp
      omega
theorem valid_take {ks : List (Int × Int)} {q : Int} {L : List It} {k : Nat} : ∀ x ∈ validN ks q (L.take k), x ∈ validN ks q L := by
  intro x hx
  obtain ⟨h1, h2⟩ := List.mem_filter.1 hx
  exact List.mem_filter.2 ⟨List.mem_of_mem_take h1, h2⟩
/-- What was settled of the first notices stands for no less by all of them. -/
theorem settle_stays {ks : List (Int × Int)} {q : Int} {L : List It} {k : Nat} {a : Std} (ha : a ∈ settleS ks q (L.take k)) :
    (∃ b ∈ settleS ks q L, b.ev = a.ev) ∧ ∀ b ∈ settleS ks q L, b.ev = a.ev → lessStd a b = false := by
  obtain ⟨m, hm, rfl⟩ := List.mem_map.1 ha
  rw [standS_ev]
  have hm2 : m ∈ evW (validN ks q L) := by
    obtain ⟨x, hx, e⟩ := ((evW_spec _).2 m).1 hm
    exact ((evW_spec _).2 m).2 ⟨x, valid_take x hx, e⟩
  refine ⟨⟨_, List.mem_map.2 ⟨m, hm2, rfl⟩, standS_ev _ _⟩, fun b hb e => ?_⟩
  obtain ⟨m', _, rfl⟩ := List.mem_map.1 hb
  rw [standS_ev] at e
  subst e
  refine stays (fun x hx => ?_) (fun x hx => valid_ok x (List.mem_filter.1 hx).1) (evW_some hm)
  obtain ⟨h1, h2⟩ := List.mem_filter.1 hx
  exact List.mem_filter.2 ⟨valid_take x h1, h2⟩
end Go.Proofs.YtohfofecbdfkgaaGreatDoor
