/-
  The first notices of a slice; the remainder.
-/
import Derived.Test.YtohfofecbdfkgaaGreatDoorU30
import Derived.Test.YtohfofecbdfkgaaGreatDoorU31
import Derived.Test.YtohfofecbdfkgaaGreatDoorV01Lb9
import Derived.Test.YtohfofecbdfkgaaGreatDoorU26
namespace Go.Proofs.YtohfofecbdfkgaaGreatDoor
open Go.RowKit Al

theorem itCells_app (L M : List It) : itCells (L ++ M) = itCells L ++ itCells M := by simp [itCells]
theorem Sl.take_it {w : World} {B nc : Nat} {N : Option Addr} {L : List It} (h : Sl w B 10 N L.length nc (itCells L)) {k : Nat} (hk : k ≤ L.length) : Sl w B 10 N (L.take k).length nc (itCells (L.take k)) := by
  have hl : (L.take k).length = k := by rw [List.length_take]; omega
  refine ⟨itCells_len _, by have := h.cap; omega, h.max, h.nil_, fun hn => ?_⟩
  obtain ⟨b, off, e, hb, hc⟩ := h.at_ (by omega)
  refine ⟨b, off, e, hb, fun j u hu => hc j u ?_⟩
  have e2 : itCells L = itCells (L.take k) ++ itCells (L.drop k) := by rw [← itCells_app, List.take_append_drop]
  have hj : j < (itCells (L.take k)).length := (List.getElem?_eq_some_iff.1 hu).1
  rw [e2, List.getElem?_append_left hj]
  exact hu
theorem Mod_is (n m : Int) (k : Nat) (w : World) (hm : 1 ≤ m) (hm2 : m ≤ 4611686018427387904) (hv : n % m = (k : Int)) :
    Calls Tryz.prog 11 #[.int .i64 n, .int .i64 m] w fun e w' => e = .returned (.int .i64 (k : Int)) ∧ w = w' := hv ▸ Mod_ n m hm hm2 w
end Go.Proofs.YtohfofecbdfkgaaGreatDoor

/-
  Plain: each fork names at least twice the quorum less the number of keys, all of whom signed two ways; its event is not in force.
-/
namespace Go.Proofs.YtohfofecbdfkgaaGreatDoor
open Go.RowKit Al

theorem sigs_spec {ks : List (Int × Int)} {d : Int} : ∀ {l : List (Int × Int)} {last : Int}, sigsOk ks d last l = true → (l.map (·.1)).Pairwise (· < ·) ∧ ∀ s ∈ l.map (·.1), last < s ∧ s < ks.length
  | [], _, _ => ⟨List.Pairwise.nil, fun s h => (nomatch h)⟩
  | z :: l, last, h => by
    have h0 : (decide (last < z.1) && (decide (z.1 < ks.length) && (sigK ks d z && sigsOk ks d z.1 l))) = true := h
    simp only [Bool.and_eq_true, decide_eq_true_eq] at h0
    obtain ⟨h1, h2, _, h3⟩ := h0
    obtain ⟨k1, k2⟩ := sigs_spec h3
    rw [List.map_cons]
    refine ⟨List.pairwise_cons.2 ⟨fun s hs => (k2 s hs).1, k1⟩, fun s hs => ?_⟩
    rcases List.mem_cons.1 hs with rfl | hs
    · exact ⟨h1, h2⟩
    · have := k2 s hs
      exact ⟨by omega, this.2⟩
/-- Who signed a valid notice. -/
theorem who_spec {ks : List (Int × Int)} {q : Int} {x : It} (h : noticeE ks q x.n = 0) : x.who.Pairwise (· < ·) ∧ (∀ s ∈ x.who, 0 ≤ s ∧ s < ks.length) ∧ q ≤ x.who.length := by
  unfold noticeE at h
  split at h
  · split at h
    · rename_i hs
      split at h
      · cases h
      · rename_i hq
        obtain ⟨h1, h2⟩ := sigs_spec hs
        refine ⟨h1, fun s hs => ?_, ?_⟩
        · have := h2 s hs
          exact ⟨by omega, this.2⟩
        · unfold It.who
          rw [List.length_map]
          omega
    · cases h
  · cases h
theorem both_len {α : Type} (p r : α → Bool) : ∀ l : List α, (l.filter p).length + (l.filter r).length ≤ l.length + (l.filter fun x => p x && r x).length
  | [] => by simp
  | x :: l => by
    have := both_len p r l
    simp only [List.filter_cons]
    cases hp : p x <;> cases hr : r x <;> simp <;> omega
theorem filter_le {α : Type} {p r : α → Bool} (h : ∀ x, p x = true → r x = true) : ∀ l : List α, (l.filter p).length ≤ (l.filter r).length
  | [] => by simp
  | x :: l => by
    have := filter_le h l
    simp only [List.filter_cons]
    cases hp : p x with
    | false => cases hr : r x <;> simp <;> omega
    | true => rw [h x hp]; simp; omega
theorem some_len {n : Nat} {l : List Int} (hs : l.Pairwise (· < ·)) (hr : ∀ s ∈ l, 0 ≤ s ∧ s < (n : Int)) : (((List.range n).map fun s : Nat => (s : Int)).filter fun s => decide (s ∈ l)).length = l.length := by
  refine List.Perm.length_eq ((List.perm_ext_iff_of_nodup ?_ (hs.imp fun h => Int.ne_of_lt h)).2 fun s => ?_)
  · refine List.Pairwise.filter _ (List.pairwise_map.2 ((List.pairwise_lt_range).imp fun h => ?_))
    omega
  · rw [List.mem_filter, decide_eq_true_eq]
    refine ⟨fun h => h.2, fun h => ⟨?_, h⟩⟩
    have := hr s h
    exact List.mem_map.2 ⟨s.toNat, List.mem_range.2 (by omega), by omega⟩
theorem fork_many {ks : List (Int × Int)} {q : Int} {L : List It} (hv : ∀ x ∈ L, noticeE ks q x.n = 0) {v : Int} (hf : pairAny (splitV v) L L.length = true) : 2 * q - ks.length ≤ (forkWho L v ks.length).length := by
  obtain ⟨x, hx, y, hy, h⟩ := (pairAny_mem (splitV_comm v) (splitV_self v)).1 hf
  obtain ⟨a1, a2, a3⟩ := who_spec (hv x hx)
  obtain ⟨b1, b2, b3⟩ := who_spec (hv y hy)
  have e1 := some_len a1 a2
  have e2 := some_len b1 b2
  have e3 := both_len (fun s => decide (s ∈ x.who)) (fun s => decide (s ∈ y.who)) ((List.range ks.length).map fun s : Nat => (s : Int))
  have e4 : (((List.range ks.length).map fun s : Nat => (s : Int)).filter fun s => decide (s ∈ x.who) && decide (s ∈ y.who)).length ≤ (forkWho L v ks.length).length := by
    unfold forkWho
    refine filter_le (fun s hs => ?_) _
    simp only [Bool.and_eq_true, decide_eq_true_eq] at hs
    refine (pairAny_mem (twoV_comm v s) (twoV_self v s)).2 ⟨x, hx, y, hy, ?_⟩
    unfold twoV
    rw [h, hasS_iff.2 hs.1, hasS_iff.2 hs.2]
    rfl
  rw [List.length_map, List.length_range] at e3
  omega
theorem valid_zero {ks : List (Int × Int)} {q : Int} {L : List It} : ∀ x ∈ validN ks q L, noticeE ks q x.n = 0 := by
  intro x hx
  simpa using (List.mem_filter.1 hx).2
/-- What a fork is. -/
theorem fork_spec {ks : List (Int × Int)} {q : Int} {L : List It} {f : Frk} (h : f ∈ forksS ks q L) :
    f.ev ∈ evW (validN ks q L) ∧ pairAny (splitV f.ver) ((validN ks q L).filter (ofEv f.ev)) ((validN ks q L).filter (ofEv f.ev)).length = true ∧ f.who = forkWho ((validN ks q L).filter (ofEv f.ev)) f.ver ks.length := by
  unfold forksS at h
  obtain ⟨m, hm, h2⟩ := List.mem_flatMap.1 h
  unfold forksE at h2
  obtain ⟨v, hv, h3⟩ := List.mem_flatMap.1 h2
  unfold forkAt at h3
  split at h3
  · rename_i hp
    rw [List.mem_singleton] at h3
    subst h3
    exact ⟨hm, hp, rfl⟩
  · cases h3
theorem blame_many {ks : List (Int × Int)} {q : Int} {L : List It} {f : Frk} (h : f ∈ forksS ks q L) : 2 * q - ks.length ≤ f.who.length := by
  obtain ⟨_, h2, h3⟩ := fork_spec h
  rw [h3]
  exact fork_many (fun x hx => valid_zero x (List.mem_filter.1 hx).1) h2
/-- Who is named signed two different alerts. -/
theorem blame_two {ks : List (Int × Int)} {q : Int} {L : List It} {f : Frk} (h : f ∈ forksS ks q L) {s : Int} (hs : s ∈ f.who) :
    ∃ x ∈ (validN ks q L).filter (ofEv f.ev), ∃ y ∈ (validN ks q L).filter (ofEv f.ev), x.n.a.ver = f.ver ∧ y.n.a.ver = f.ver ∧ x.n.a ≠ y.n.a ∧ s ∈ x.who ∧ s ∈ y.who := by
  obtain ⟨_, _, h3⟩ := fork_spec h
  rw [h3] at hs
  unfold forkWho at hs
  obtain ⟨_, h4⟩ := List.mem_filter.1 hs
  obtain ⟨x, hx, y, hy, h5⟩ := (pairAny_mem (twoV_comm f.ver s) (twoV_self f.ver s)).1 h4
  unfold twoV at h5
  simp only [Bool.and_eq_true] at h5
  obtain ⟨h6, h7, h8⟩ := h5
  unfold splitV at h6
  simp only [Bool.and_eq_true, beq_iff_eq, Bool.not_eq_true'] at h6
  refine ⟨x, hx, y, hy, h6.1.1, h6.1.2, fun e => ?_, hasS_iff.1 h7, hasS_iff.1 h8⟩
  rw [sameB_iff.2 e] at h6
  cases h6.2
/-- The event of a fork is settled, and not in force. -/
theorem blame_state {ks : List (Int × Int)} {q : Int} {L : List It} {f : Frk} (h : f ∈ forksS ks q L) : ∃ b ∈ settleS ks q L, b.ev = f.ev ∧ (b.st == 1) = false := by
  obtain ⟨h1, h2, _⟩ := fork_spec h
  refine ⟨_, List.mem_map.2 ⟨f.ev, h1, rfl⟩, standS_ev _ _, ?_⟩
  have hok : ∀ x ∈ (validN ks q L).filter (ofEv f.ev), okA x.n.a = true := fun x hx => valid_ok x (List.mem_filter.1 hx).1
  have hd := (disp_texts hok).2 ⟨_, (fork_texts hok _).2 h2⟩
  cases hw : ((validN ks q L).filter (ofEv f.ev)).any (fun x => x.n.a.wd) with
  | true => rw [standS_wd hw]; rfl
  | false => rw [standS_disp hw hd]; rfl
end Go.Proofs.YtohfofecbdfkgaaGreatDoor
