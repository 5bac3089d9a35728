/-
  Post, for every notice.
-/
import Derived.Test.YtohfofecbdfkgaaDoorPo
namespace Go.Proofs.YtohfofecbdfkgaaDoor
open Go.RowKit Al

theorem sigs_len {ks : List (Int × Int)} {d : Int} : ∀ {sg : List (Int × Int)} {last : Int}, sigsOk ks d last sg = true → sg = [] ∨ last + sg.length < ks.length
  | [], _, _ => .inl rfl
  | s :: l, last, h => by
    rw [sigsOk] at h
    simp only [Bool.and_eq_true, decide_eq_true_eq] at h
    obtain ⟨h1, h2, _, h4⟩ := h
    rcases sigs_len h4 with h5 | h5
    · subst h5; right; simp; omega
    · right; rw [List.length_cons]; omega
theorem noticeE_zero {ks : List (Int × Int)} {q : Int} {n : Ntc} (h : noticeE ks q n = 0) : okA n.a = true ∧ n.sg.length ≤ ks.length := by
  unfold noticeE at h
  split at h
  · rename_i hk
    split at h
    · rename_i hs
      refine ⟨hk, ?_⟩
      rcases sigs_len hs with h1 | h1
      · rw [h1]; simp
      · omega
    · cases h
  · cases h
theorem zero_ver : 0 ≤ Al.zero.ver ∧ Al.zero.ver ≤ 2147483647 := by decide
theorem chain_none {ns : List Ntc} {n : Ntc} (h : lastOf ns n.a.ev.data.toList = none) : chainE ns n = chainX Al.zero 0 ns.length n := by
  unfold chainE chainX
  rw [h]
  rfl
theorem chain_some {ns : List Ntc} {n : Ntc} {x : Alr} (h : lastOf ns n.a.ev.data.toList = some x) : chainE ns n = chainX x (digA x) ns.length n := by
  unfold chainE chainX
  rw [h]
  rfl
theorem postE_t {ks : List (Int × Int)} {q : Int} {ns : List Ntc} {n : Ntc} (h : noticeE ks q n = 0) : postE ks q ns n = chainE ns n := by unfold postE; rw [if_pos h]
theorem postE_f {ks : List (Int × Int)} {q : Int} {ns : List Ntc} {n : Ntc} (h : ¬ noticeE ks q n = 0) : postE ks q ns n = noticeE ks q n := by unfold postE; rw [if_neg h]
theorem post_ends {S : Nat → Prop} {b : Nat} {ks : List (Int × Int)} {q : Int} {ns : List Ntc} {n : Ntc} {w : World} {R : Nat → Prop} {K : Option Addr} {kc : Nat} {L : List It} {N : Option Addr} {nc mb : Nat} {G : List UInt8 → Option (Alr × Option Addr × Nat)} {x : Alr} {bf : Int}
    (h : BdAt w R b ks q K kc L N nc mb G) (hns : L.map (·.n) = ns) (hS : ∀ i, BdF R b mb N i → S i) (hE : noticeE ks q n = 0) (hc : chainE ns n = chainX x bf L.length n) {e : Ending} {w' : World} (hp : PcT R b ks q K kc L N mb n x bf w e w') : PostT S b ks q ns n w e w' := by
  obtain ⟨h1, h2, h3⟩ := hp
  unfold PostT postN
  rw [postE_t hE, hc]
  by_cases hz : chainX x bf L.length n = 0
  · obtain ⟨R', it, N', nc', G', hit, hb, hk, hf⟩ := h3 hz
    refine ⟨h1, ?_, hk.mono (fun i _ hi => hS i hi)⟩
    rw [if_pos hz]
    refine ⟨R', K, kc, L ++ [it], N', nc', mb, G', hb, by rw [List.map_append, hns, List.map_cons, hit]; rfl, fun i hi => ?_⟩
    rcases hf i hi with hf | hf
    · exact .inl (hS i hf)
    · exact .inr hf
  · refine ⟨h1, ?_, Kp.of_below (h2 hz)⟩
    rw [if_neg hz]
    exact ⟨R, K, kc, L, N, nc, mb, G, h.keep (F := fun _ => False) (Kp.of_below (h2 hz)) (fun _ _ f => f), hns, fun i hi => .inl (hS i hi)⟩
/-- Post. -/
theorem Post_ (S : Nat → Prop) (b : Nat) (ks : List (Int × Int)) (q : Int) (ns : List Ntc) (n : Ntc) (A : Option Addr) (c : Nat) (Z : Option Addr) (zc : Nat) (w : World)
    (h : Bd w S b ks q ns) (hn : NIn w n A c Z zc) (ht : Rdy w) (hna : SlR w (fun i => ¬ S i) 1 A n.a.cells.length c (ints n.a.cells)) :
    Calls Tryd.prog 32 #[.pointer (some ⟨b, 0, none⟩), n.val A c Z zc] w (PostT S b ks q ns n w) := by
  obtain ⟨R, K, kc, L, N, nc, mb, G, hb, hns, hS⟩ := h
  have hlen : ns.length = L.length := by rw [← hns, List.length_map]
  by_cases hE : noticeE ks q n = 0
  · obtain ⟨hok, hsl⟩ := noticeE_zero hE
    have hks := rollOk_len hb.rok
    have hna' := hna.mono (R' := fun i => ¬ BdF R b mb N i) (fun i hi f => hi (hS i f))
    cases hG : G n.a.ev.data.toList with
    | none =>
      have hl : lastOf ns n.a.ev.data.toList = none := by rw [← hns, ← hb.gl, hG]; rfl
      refine (post_c R b ks q K kc L N nc mb G n A c Z zc Al.zero none 0 false 0 w hb hn ht hE (by rw [hG]; rfl) (fun _ => ⟨rfl, rfl, rfl, rfl⟩) (fun h => by cases h) hn.al.ev zero_ver hok (by omega) hna').mono fun e w' hp => ?_
      exact post_ends hb hns hS hE (by rw [chain_none hl, hlen]) hp
    | some y =>
      obtain ⟨x, XA, xc⟩ := y
      have hl : lastOf ns n.a.ev.data.toList = some x := by rw [← hns, ← hb.gl, hG]; rfl
      obtain ⟨hxk0, hxs⟩ := hb.gs _ _ hG
      have hxk : okA x = true := hxk0
      have hg := okA_good hxk
      refine (post_c R b ks q K kc L N nc mb G n A c Z zc x XA xc true (digA x) w hb hn ht hE (by rw [hG]; rfl) (fun h => by cases h) (fun _ => ⟨hxk, ⟨by have := hg.ev; unfold maxLen; omega, hxs.sl⟩, rfl⟩) hn.al.ev hg.ver hok (by omega) hna').mono fun e w' hp => ?_
      exact post_ends hb hns hS hE (by rw [chain_some hl, hlen]) hp
  · have he : (noticeE ks q n == 0) = false := by simpa using hE
    refine (post_e R b ks q K kc L N nc mb G n A c Z zc w hb hn ht he).mono fun e w' hp => ?_
    obtain ⟨h1, h2⟩ := hp
    unfold PostT postN
    rw [postE_f hE, if_neg hE]
    exact ⟨h1, ⟨R, K, kc, L, N, nc, mb, G, hb.keep (F := fun _ => False) (Kp.of_below h2) (fun _ _ f => f), hns, fun i hi => .inl (hS i hi)⟩, Kp.of_below h2⟩
end Go.Proofs.YtohfofecbdfkgaaDoor
