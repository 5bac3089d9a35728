/-
  Post, for every notice.
-/
import Derived.Test.YtmpbhngjkbidcaaGreatDoorW18
import Derived.Test.YtmpbhngjkbidcaaGreatDoorW13
import Derived.StillTail
namespace Go.Proofs.YtmpbhngjkbidcaaGreatDoor
open Go.RowKit Al

theorem sigs_len {ks : List (Int × Int)} {d : Int} : ∀ {sg : List (Int × Int)} {last : Int}, sigsOk ks d last sg = true → sg = [] ∨ last + sg.length < ks.length
  | [], _, _ => .inl rfl
  | s :: l, last, h => by
    rw [sigsOk] at h
    simp only [Bool.and_eq_true, decide_eq_true_eq] at h
    obtain ⟨h1, h2, _, h4⟩ := h
    rcases sigs_len h4 with h5 | h5
    · subst h5; right; simp; omega
    · right; rw [List.length_cons]; omega
theorem noticeE_zero {ks : List (Int × Int)} {q : Int} {n : Ntc} (h : noticeE ks q n = 0) : okA n.a = true ∧ n.sg.length ≤ ks.length := by
  unfold noticeE at h
  split at h
  · rename_i hk
    split at h
    · rename_i hs
      refine ⟨hk, ?_⟩
      rcases sigs_len hs with h1 | h1
      · rw [h1]; simp
      · omega
    · cases h
  · cases h
theorem zero_ver : 0 ≤ Al.zero.ver ∧ Al.zero.ver ≤ 2147483647 := by decide
theorem chain_none {ns : List Ntc} {n : Ntc} (h : lastOf ns n.a.ev.data.toList = none) : chainE ns n = chainX Al.zero 0 ns.length n := by
  unfold chainE chainX
  rw [h]
  rfl
theorem chain_some {ns : List Ntc} {n : Ntc} {x : Alr} (h : lastOf ns n.a.ev.data.toList = some x) : chainE ns n = chainX x (digA x) ns.length n := by
  unfold chainE chainX
  rw [h]
  rfl
theorem postE_t {ks : List (Int × Int)} {q : Int} {ns : List Ntc} {n : Ntc} (h : noticeE ks q n = 0) : postE ks q ns n = chainE ns n := by unfold postE; rw [if_pos h]
theorem postE_f {ks : List (Int × Int)} {q : Int} {ns : List Ntc} {n : Ntc} (h : ¬ noticeE ks q n = 0) : postE ks q ns n = noticeE ks q n := by unfold postE; rw [if_neg h]
theorem post_ends {S : Nat → Prop} {b : Nat} {ks : List (Int × Int)} {q : Int} {ns : List Ntc} {n : Ntc} {w : World} {R : Nat → Prop} {K : Option Addr} {kc : Nat} {L : List It} {N : Option Addr} {nc mb : Nat} {G : List UInt8 → Option (Alr × Option Addr × Nat)} {x : Alr} {bf : Int}
    (h : BdAt w R b ks q K kc L N nc mb G) (hns : L.map (·.n) = ns) (hS : ∀ i, BdF R b mb N i → S i) (hE : noticeE ks q n = 0) (hc : chainE ns n = chainX x bf L.length n) {e : Ending} {w' : World} (hp : PcT R b ks q K kc L N mb n x bf w e w') : PostT S b ks q ns n w e w' := by
  obtain ⟨h1, h2, h3⟩ := hp
  unfold PostT postN
  rw [postE_t hE, hc]
  by_cases hz : chainX x bf L.length n = 0
  · obtain ⟨R', it, N', nc', G', hit, hb, hk, hf⟩ := h3 hz
    refine ⟨h1, ?_, hk.mono (fun i _ hi => hS i hi)⟩
    rw [if_pos hz]
    refine ⟨R', K, kc, L ++ [it], N', nc', mb, G', hb, by rw [List.map_append, hns, List.map_cons, hit]; rfl, fun i hi => ?_⟩
    rcases hf i hi with hf | hf
    · exact .inl (hS i hf)
    · exact .inr hf
  · refine ⟨h1, ?_, Kp.of_below (h2 hz)⟩
    rw [if_neg hz]
    exact ⟨R, K, kc, L, N, nc, mb, G, h.keep (F := fun _ => False) (Kp.of_below (h2 hz)) (fun _ _ f => f), hns, fun i hi => .inl (hS i hi)⟩
/-- Post. -/
theorem Post_ (S : Nat → Prop) (b : Nat) (ks : List (Int × Int)) (q : Int) (ns : List Ntc) (n : Ntc) (A : Option Addr) (c : Nat) (Z : Option Addr) (zc : Nat) (w : World)
    (h : Bd w S b ks q ns) (hn : NIn w n A c Z zc) (ht : Rdy w) (hna : SlR w (fun i => ¬ S i) 1 A n.a.cells.length c (ints n.a.cells)) :
    Calls Tryz.prog 21 #[.pointer (some ⟨b, 0, none⟩), n.val A c Z zc] w (PostT S b ks q ns n w) := by
  obtain ⟨R, K, kc, L, N, nc, mb, G, hb, hns, hS⟩ := h
  have hlen : ns.length = L.length := by rw [← hns, List.length_map]
  by_cases hE : noticeE ks q n = 0
  · obtain ⟨hok, hsl⟩ := noticeE_zero hE
    have hks := rollOk_len hb.rok
    have hna' := hna.mono (R' := fun i => ¬ BdF R b mb N i) (fun i hi f => hi (hS i f))
    cases hG : G n.a.ev.data.toList with
    | none =>
      have hl : lastOf ns n.a.ev.data.toList = none := by rw [← hns, ← hb.gl, hG]; rfl
      refine (post_c R b ks q K kc L N nc mb G n A c Z zc Al.zero none 0 false 0 w hb hn ht hE (by rw [hG]; rfl) (fun _ => ⟨rfl, rfl, rfl, rfl⟩) (fun h => by cases h) hn.al.ev zero_ver hok (by omega) hna').mono fun e w' hp => ?_
      exact post_ends hb hns hS hE (by rw [chain_none hl, hlen]) hp
    | some y =>
      obtain ⟨x, XA, xc⟩ := y
      have hl : lastOf ns n.a.ev.data.toList = some x := by rw [← hns, ← hb.gl, hG]; rfl
      obtain ⟨hxk0, hxs⟩ := hb.gs _ _ hG
      have hxk : okA x = true := hxk0
      have hg := okA_good hxk
      refine (post_c R b ks q K kc L N nc mb G n A c Z zc x XA xc true (digA x) w hb hn ht hE (by rw [hG]; rfl) (fun h => by cases h) (fun _ => ⟨hxk, ⟨by have := hg.ev; unfold maxLen; omega, hxs.sl⟩, rfl⟩) hn.al.ev hg.ver hok (by omega) hna').mono fun e w' hp => ?_
      exact post_ends hb hns hS hE (by rw [chain_some hl, hlen]) hp
  · have he : (noticeE ks q n == 0) = false := by simpa using hE
    refine (post_e R b ks q K kc L N nc mb G n A c Z zc w hb hn ht he).mono fun e w' hp => ?_
    obtain ⟨h1, h2⟩ := hp
    unfold PostT postN
    rw [postE_f hE, if_neg hE]
    exact ⟨h1, ⟨R, K, kc, L, N, nc, mb, G, hb.keep (F := fun _ => False) (Kp.of_below h2) (fun _ _ f => f), hns, fun i hi => .inl (hS i hi)⟩, Kp.of_below h2⟩
end Go.Proofs.YtmpbhngjkbidcaaGreatDoor

/-
  A region that draws its order: what it reads and calls ahead comes in any order, the last operations (a store) in one order behind it. One walk of the text serves, in a class of worlds: the library's two theorems (the quiet class; the tail) joined.
-/
namespace Go.Proofs.YtmpbhngjkbidcaaGreatDoor
open Go.RowKit Al

section
variable {P : Program} {ops : Array Oper} {md : Region.Mode} {C : World → Prop}

/-- Whatever order of the first n is picked from here on, L holds behind it. -/
def headAny (P : Program) (md : Region.Mode) (ops : Array Oper) (C : World → Prop) (n : Nat) (L : Array Bool → Act → Prop) : Nat → Array Bool → Act → Prop
  | 0, s, a => L s a
  | f + 1, s, a => Region.ready md ops s ≠ [] ∧ ∀ i ∈ Region.ready md ops s, i < n ∧ qOp P ops C i (headAny P md ops C n L f (s.setIfInBounds i true)) a

theorem any_of_head {n g : Nat} {L : Array Bool → Act → Prop} {Q' : Exit → Act → World → Prop} (hL : ∀ s a w, C w → L s a → wpAny P md ops Q' g s a w) :
    ∀ (f : Nat) (s : Array Bool) (a : Act) (w : World), C w → headAny P md ops C n L f s a → wpAny P md ops Q' (f + g) s a w
  | 0, s, a, w, hw, h => by rw [Nat.zero_add]; exact hL _ _ _ hw h
  | f + 1, s, a, w, hw, h => by
    rw [show f + 1 + g = (f + g) + 1 by omega]
    exact ⟨fun h0 => absurd h0 h.1, fun i hi => wpOp_of_qOp hw (fun a' w' hw' hk => any_of_head hL f _ a' w' hw' hk) (h.2 i hi).2⟩

theorem head_first {n i : Nat} {oi : Oper} {v : Value} {L : Array Bool → Act → Prop} (hi : ops[i]? = some oi) (hsel : ∀ (j : Nat) (o : Oper) cs b, ops[j]? = some o → o.op ≠ .select cs b)
    (hs : Region.sinkB md ops n = true) (hc : Region.chainB md ops n = true) (hn : n < ops.size) (hin : i < n) (hdone : ∀ s a, L s a → ∀ j ∈ Region.ready md ops s, n ≤ j) (f : Nat) :
    ∀ (s : Array Bool) (a : Act), HeadInv md ops n s →
      (∀ j oj, ops[j]? = some oj → j ≠ i → s.getD j true = false → (∀ e ∈ oj.after, Region.binds md e = true → e.on ≠ i) → oi.apart ops oj = true) →
      i ∈ Region.ready md ops s → YieldsIn P ops C oi v a →
      headAny P md ops C n L f (s.setIfInBounds i true) (a.put oi.dst v) → headAny P md ops C n L (f + 1) s a := by
  induction f with
  | zero =>
    intro s a inv _ hr hy H
    refine ⟨fun h => absurd hr (by rw [h]; exact List.not_mem_nil), fun j hj => ?_⟩
    have hjn : j < n := Nat.lt_of_not_le fun h => tail_waits hs hc hn inv _ i rfl hin (mem_ready.1 hr).1 j h hj
    refine ⟨hjn, ?_⟩
    rcases Nat.decEq j i with hji | rfl
    · have := hdone _ _ H j (ready_mono hj hji)
      omega
    · exact hy.qOp hi H
  | succ f ih =>
    intro s a inv hfree hr hy H
    refine ⟨fun h => absurd hr (by rw [h]; exact List.not_mem_nil), fun j hj => ?_⟩
    have hjn : j < n := Nat.lt_of_not_le fun h => tail_waits hs hc hn inv _ i rfl hin (mem_ready.1 hr).1 j h hj
    refine ⟨hjn, ?_⟩
    rcases Nat.decEq j i with hji | rfl
    · obtain ⟨hjun, oj, hoj, hall⟩ := mem_ready.1 hj
      have hno : ∀ e ∈ oj.after, Region.binds md e = true → e.on ≠ i := fun e he hb heq => by
        have h1 := hall e he hb
        rw [heq, getD_both (mem_ready.1 hr).1] at h1
        cases h1
      refine qOp_mono (fun a' h3 => ih (s.setIfInBounds j true) a' (inv.set hj hjn) (fun k ok hk hki hun hno' => ?_) (ready_mono hr (Ne.symm hji)) h3.1 ?_)
        (qOp_put hoj (hfree j oj hoj hji hjun hno) (fun cs b => hsel i oi cs b hi) (fun cs b => hsel j oj cs b hoj) hy (H.2 j (ready_mono hj hji)).2)
      · refine hfree k ok hk hki ?_ hno'
        rcases Nat.decEq j k with hjk | rfl
        · rwa [getD_set_ne true hjk] at hun
        · exact hjun
      · rw [Array.setIfInBounds_comm _ _ hji]
        exact h3.2
    · exact hy.qOp hi H

theorem head_lex {n g : Nat} {Lq : Act → Prop} (hsel : Region.noSelect ops = true) (hs : Region.sinkB md ops n = true) (hc : Region.chainB md ops n = true) (hn : n < ops.size) :
    ∀ (l : List Oper) (k : Nat) (s : Array Bool) (a : Act), (∀ j, j < l.length → l[j]? = ops[k + j]?) → k + l.length = n → HeadInv md ops n s →
    Region.lexHead md ops g l.length k s = true → wpQuiet P ops C Lq l a → headAny P md ops C n (fun s' a' => Region.seqB md ops g n s' = true ∧ Lq a') l.length s a
  | [], k, s, a, _, hk, _, hB, h => by
    obtain rfl : k = n := by simpa using hk
    exact ⟨hB, h⟩
  | o :: l, k, s, a, hl, hk, inv, hB, h => by
    have h0 : ops[k]? = some o := by simpa using (hl 0 (by simp)).symm
    simp only [List.length_cons] at hk
    simp only [List.length_cons, Region.lexHead, Bool.and_eq_true] at hB
    have hr : k ∈ Region.ready md ops s := by simpa using hB.1.1
    have hq : qOp P ops C k (wpQuiet P ops C Lq l) a := by unfold qOp; simp only [h0]; exact h
    obtain ⟨v, hy, hK⟩ := yieldsIn_of_qOp h0 hq
    refine head_first h0 (Region.noSelect_spec hsel) hs hc hn (by omega) (fun s' a' hL => seqB_ready hL.1) l.length s a inv (Region.free_spec h0 hB.1.2) hr hy ?_
    exact head_lex hsel hs hc hn l (k + 1) _ _ (fun j hj => by have := hl (j + 1) (by simp; omega); simpa [Nat.add_assoc, Nat.add_comm 1 j] using this) (by omega) (inv.set hr (by omega)) hB.2 hK

theorem wp_region_qtail {id : Nat} {Q : Exit → Act → World → Prop} {a : Act} {w : World} {l : List Oper} (n : Nat) (hm : P.follows .mixedOrders = true) (hB : Region.lexTailB .any l.toArray n = true)
    (hC : C { w with drawn := w.drawn + 1 }) (h : wpQuiet P l.toArray C (fun a' => ∀ w', C w' → wpList P l.toArray Q (l.drop n) a' w') (l.take n) a) : (Code.region id l.toArray true).wp P Q a w := by
  simp only [Region.lexTailB, Bool.and_eq_true, decide_eq_true_eq] at hB
  obtain ⟨⟨⟨⟨hsel, hn⟩, hs⟩, hc⟩, hlex⟩ := hB
  have hn' : n < l.length := by simpa using hn
  have htl : (l.take n).length = n := by simp; omega
  have hdl : (l.drop n).length = l.toArray.size - n := by simp
  have inv0 : HeadInv .any l.toArray n (Array.replicate l.toArray.size false) :=
    ⟨by simp, fun j oj _ hl => absurd hl (by rw [getD_replicate_false]; decide), fun t _ ht => getD_in (by simpa using ht) (getD_replicate_false _ _)⟩
  have H := head_lex (md := .any) (g := l.toArray.size - n) hsel hs hc hn (l.take n) 0 _ a (fun j hj => by
    rw [htl] at hj
    simp [hj]) (by simpa using htl) inv0 (by rw [htl]; exact hlex) h
  refine wp_region_any hm ?_
  have := any_of_head (Q' := Q) (g := l.toArray.size - n) (fun s a' w' hw' hL => by
    have := wpAny_of_seq (md := .any) (Q' := Q) (l.drop n) n s a' w' (fun j => by simp [List.getElem?_drop]) (by rw [hdl]; exact hL.1) (hL.2 w' hw')
    rwa [hdl] at this) _ _ _ { w with drawn := w.drawn + 1 } hC H
  rwa [htl, show n + (l.toArray.size - n) = l.toArray.size by omega] at this
end

/-- .. at the class of the worlds that are as this one was below its heap's size. -/
theorem wp_region_bwt {P : Program} {id : Nat} {Q : Exit → Act → World → Prop} {a : Act} {w : World} {l : List Oper} (n : Nat) (hm : P.follows .mixedOrders = true) (hB : Region.lexTailB .any l.toArray n = true)
    (h : (∀ (z : BW w) (b o : Nat), b < w.heap.size → z.w.cell? ⟨b, o, none⟩ = w.cell? ⟨b, o, none⟩) → wpQuiet P l.toArray (fun w' => ∃ z : BW w, w' = z.w) (fun a' => ∀ w', Below w.heap.size w w' → wpList P l.toArray Q (l.drop n) a' w') (l.take n) a) :
    (Code.region id l.toArray true).wp P Q a w := by
  refine wp_region_qtail (C := fun w' => ∃ z : BW w, w' = z.w) n hm hB ⟨⟨_, (Below.refl _ _).drew⟩, rfl⟩ ?_
  have e : (fun a' : Act => ∀ w', (∃ z : BW w, w' = z.w) → wpList P l.toArray Q (l.drop n) a' w') = fun a' => ∀ w', Below w.heap.size w w' → wpList P l.toArray Q (l.drop n) a' w' := by
    funext a'
    refine propext ⟨fun h w' hb => h w' ⟨⟨w', hb⟩, rfl⟩, fun h w' ⟨z, hz⟩ => ?_⟩
    subst hz
    exact h _ z.below
  rw [e]
  exact h (BW.cell w)
end Go.Proofs.YtmpbhngjkbidcaaGreatDoor

/-
  The walk of next, of the program.
-/
namespace Go.Proofs.YtmpbhngjkbidcaaGreatDoor
open Go.RowKit Al

/-- The error of a next version. -/
def nextE (a : Alr) (t : Int) : Int := if okA a then (if a.wd then 107 else (if t < a.tm then 108 else 0)) else 101
/-- The next version, as far as it is known. -/
def nextA (a : Alr) (t : Int) : Alr := ⟨a.ev, a.ver + 1, t, a.n, a.of, a.grid, [], false, digA a⟩
theorem nextE_101 {a : Alr} {t : Int} (h : okA a = false) : nextE a t = 101 := by unfold nextE; rw [h]; rfl
theorem nextE_107 {a : Alr} {t : Int} (h : okA a = true) (h1 : a.wd = true) : nextE a t = 107 := by unfold nextE; rw [h, h1]; rfl
theorem nextE_108 {a : Alr} {t : Int} (h : okA a = true) (h1 : a.wd = false) (h2 : t < a.tm) : nextE a t = 108 := by unfold nextE; rw [h, h1, if_pos h2]; rfl
theorem nextE_0 {a : Alr} {t : Int} (h : okA a = true) (h1 : a.wd = false) (h2 : ¬ t < a.tm) : nextE a t = 0 := by unfold nextE; rw [h, h1, if_neg h2]; rfl
/-- What next returns. -/
def NextT (b : Alr) (k : Int) (w : World) (e : Ending) (w' : World) : Prop := e = .returned (.tuple #[b.val none 0, .int .i64 k]) ∧ Below w.heap.size w w'

set_option maxRecDepth 100000 in
set_option maxHeartbeats 8000000 in
theorem next_t (ev : ByteArray) (ver tm cn co grid before : Int) (cells : List Int) (A : Option Addr) (c : Nat) (t : Int) (w : World) (hk : okA ⟨ev, ver, tm, cn, co, grid, cells, false, before⟩ = true) (ht : ¬ t < tm) (h : AIn w ⟨ev, ver, tm, cn, co, grid, cells, false, before⟩ A c) (hr : Rdy w) :
    Calls Tryz.prog 43 #[(⟨ev, ver, tm, cn, co, grid, cells, false, before⟩ : Alr).val A c, .int .i64 t] w (NextT (nextA ⟨ev, ver, tm, cn, co, grid, cells, false, before⟩ t) 0 w) := by
  have HS := Lib.hid h
  have HK := Lib.hid hk
  have HR := Lib.hid hr
  have hg : 0 ≤ ver ∧ ver ≤ 2147483647 := (okA_good hk).ver
  have ht' : decide (t < tm) = false := decide_eq_false ht
  clear h hk hr
  go_enter Tryz.func43, Tryz.ntmps43
  go_wp2_with fail
  refine (validA_is ⟨ev, ver, tm, cn, co, grid, cells, false, before⟩ A c _ true HK.out (HS.out.below (by (repeat (first | exact Below.refl _ _ | assumption | refine below_drewN ?_ _ | refine Below.drew ?_ | refine Below.setCell ?_ (by first | omega | (simp; done) | (simp; omega)) _ | refine Below.alloc ?_ (by first | omega | (simp; done) | (simp; omega)) _))))).mono ?_
  rintro e w1 ⟨rfl, hb⟩
  obtain ⟨hcw1, hfw1⟩ := bcell hb
  have Hw1 := Lib.hid ((show Below w.heap.size w _ from (by repeat (first | exact Below.refl _ _ | assumption | refine below_drewN ?_ _ | refine Below.drew ?_ | refine Below.setCell ?_ (by first | omega | (simp; done) | (simp; omega)) _ | refine Below.alloc ?_ (by first | omega | (simp; done) | (simp; omega)) _))).trans (hb.mono (by first | omega | (simp; done) | (simp; omega))))
  have hzw1 := hb.size
  try simp at hzw1
  clear hb
  have hz3 : w.heap.size + 1 < w1.heap.size := by omega
  have hz4 : w.heap.size < w1.heap.size := by omega
  go_wp2_with fail
  refine wp_region_bwt 13 (by kernel_rfl) (by kernel_rfl) (fun hbwc => ?_)
  simp only [List.take_succ_cons, List.take_zero, List.drop_succ_cons, List.drop_zero]
  repeat (go_big_quiet_step ((go_at_call 50; exact bwCall (digestA ⟨ev, ver, tm, cn, co, grid, cells, false, before⟩ A c _ HK.out (AIn.below (HS.out.below Hw1.out) (BW.below _)) (Rdy.below (HR.out.below Hw1.out) (BW.below _))))))
  refine wpQuiet_nil ?_
  clear hbwc
  intro w3 hb
  obtain ⟨hcw3, hfw3⟩ := bcell hb
  have Hw3 := Lib.hid (Hw1.out.trans (hb.mono Hw1.out.size))
  have hz5 := hb.size
  clear hb
  have hz6 : w.heap.size + 1 < w3.heap.size := by omega
  go_wp2_with fail
  refine finCells (w := w3) (w.heap.size + 1) ((nextA ⟨ev, ver, tm, cn, co, grid, cells, false, before⟩ t).lst none 0) (.tuple #[(nextA ⟨ev, ver, tm, cn, co, grid, cells, false, before⟩ t).val none 0, .int .i64 0]) rfl ?_ ?_ (show NextT (nextA ⟨ev, ver, tm, cn, co, grid, cells, false, before⟩ t) 0 w _ _ from ⟨rfl, ?_⟩)
  · intro W hW
    have r0 := hW 0 (by simp)
    have r1 := hW 1 (by simp)
    have r2 := hW 2 (by simp)
    have r3 := hW 3 (by simp)
    have r4 := hW 4 (by simp)
    have r5 := hW 5 (by simp)
    have r6 := hW 6 (by simp)
    have r7 := hW 7 (by simp)
    have r8 := hW 8 (by simp)
    clear hW
    simp only [List.getElem_cons_zero, List.getElem_cons_succ] at r0 r1 r2 r3 r4 r5 r6 r7 r8
    simp [results, Tryz.results43, go_sem, r0, r1, r2, r3, r4, r5, r6, r7, r8]
  · refine lt9 ?_
    simp [go_sem, hcw1, hcw3, hz3]
  · exact below_setCells (by omega) _ _ _ _ Hw3.out

set_option maxRecDepth 100000 in
set_option maxHeartbeats 1000000 in
theorem next_101 (ev : ByteArray) (ver tm cn co grid before : Int) (cells : List Int) (wd : Bool) (A : Option Addr) (c : Nat) (t : Int) (w : World) (hk : okA ⟨ev, ver, tm, cn, co, grid, cells, wd, before⟩ = false) (h : AIn w ⟨ev, ver, tm, cn, co, grid, cells, wd, before⟩ A c) :
    Calls Tryz.prog 43 #[(⟨ev, ver, tm, cn, co, grid, cells, wd, before⟩ : Alr).val A c, .int .i64 t] w (NextT Al.zero 101 w) := by
  have HS := Lib.hid h
  have HK := Lib.hid hk
  clear h hk
  go_enter Tryz.func43, Tryz.ntmps43
  go_wp2_with fail
  refine (validA_is ⟨ev, ver, tm, cn, co, grid, cells, wd, before⟩ A c _ false HK.out (HS.out.below (by (repeat (first | exact Below.refl _ _ | assumption | refine below_drewN ?_ _ | refine Below.drew ?_ | refine Below.setCell ?_ (by first | omega | (simp; done) | (simp; omega)) _ | refine Below.alloc ?_ (by first | omega | (simp; done) | (simp; omega)) _))))).mono ?_
  rintro e w1 ⟨rfl, hb⟩
  obtain ⟨hcw1, hfw1⟩ := bcell hb
  have Hw1 := Lib.hid ((show Below w.heap.size w _ from (by repeat (first | exact Below.refl _ _ | assumption | refine below_drewN ?_ _ | refine Below.drew ?_ | refine Below.setCell ?_ (by first | omega | (simp; done) | (simp; omega)) _ | refine Below.alloc ?_ (by first | omega | (simp; done) | (simp; omega)) _))).trans (hb.mono (by first | omega | (simp; done) | (simp; omega))))
  have hzw1 := hb.size
  try simp at hzw1
  clear hb
  have hz3 : w.heap.size + 1 < w1.heap.size := by omega
  have hz4 : w.heap.size < w1.heap.size := by omega
  go_wp2_with fail
  refine finCells (w := w1) (w.heap.size + 1) (Al.zero.lst none 0) (.tuple #[Al.zero.val none 0, .int .i64 101]) rfl ?_ ?_ (show NextT Al.zero 101 w _ _ from ⟨rfl, ?_⟩)
  · intro W hW
    have r0 := hW 0 (by simp)
    have r1 := hW 1 (by simp)
    have r2 := hW 2 (by simp)
    have r3 := hW 3 (by simp)
    have r4 := hW 4 (by simp)
    have r5 := hW 5 (by simp)
    have r6 := hW 6 (by simp)
    have r7 := hW 7 (by simp)
    have r8 := hW 8 (by simp)
    clear hW
    simp only [List.getElem_cons_zero, List.getElem_cons_succ] at r0 r1 r2 r3 r4 r5 r6 r7 r8
    simp [results, Tryz.results43, go_sem, r0, r1, r2, r3, r4, r5, r6, r7, r8]
  · refine lt9 ?_
    simp [go_sem, hcw1]
  · exact below_setCells (by omega) _ _ _ _ Hw1.out

set_option maxRecDepth 100000 in
set_option maxHeartbeats 1000000 in
theorem next_107 (ev : ByteArray) (ver tm cn co grid before : Int) (cells : List Int) (A : Option Addr) (c : Nat) (t : Int) (w : World) (hk : okA ⟨ev, ver, tm, cn, co, grid, cells, true, before⟩ = true) (h : AIn w ⟨ev, ver, tm, cn, co, grid, cells, true, before⟩ A c) :
    Calls Tryz.prog 43 #[(⟨ev, ver, tm, cn, co, grid, cells, true, before⟩ : Alr).val A c, .int .i64 t] w (NextT Al.zero 107 w) := by
  have HS := Lib.hid h
  have HK := Lib.hid hk
  clear h hk
  go_enter Tryz.func43, Tryz.ntmps43
  go_wp2_with fail
  refine (validA_is ⟨ev, ver, tm, cn, co, grid, cells, true, before⟩ A c _ true HK.out (HS.out.below (by (repeat (first | exact Below.refl _ _ | assumption | refine below_drewN ?_ _ | refine Below.drew ?_ | refine Below.setCell ?_ (by first | omega | (simp; done) | (simp; omega)) _ | refine Below.alloc ?_ (by first | omega | (simp; done) | (simp; omega)) _))))).mono ?_
  rintro e w1 ⟨rfl, hb⟩
  obtain ⟨hcw1, hfw1⟩ := bcell hb
  have Hw1 := Lib.hid ((show Below w.heap.size w _ from (by repeat (first | exact Below.refl _ _ | assumption | refine below_drewN ?_ _ | refine Below.drew ?_ | refine Below.setCell ?_ (by first | omega | (simp; done) | (simp; omega)) _ | refine Below.alloc ?_ (by first | omega | (simp; done) | (simp; omega)) _))).trans (hb.mono (by first | omega | (simp; done) | (simp; omega))))
  have hzw1 := hb.size
  try simp at hzw1
  clear hb
  have hz3 : w.heap.size + 1 < w1.heap.size := by omega
  have hz4 : w.heap.size < w1.heap.size := by omega
  go_wp2_with fail
  refine finCells (w := w1) (w.heap.size + 1) (Al.zero.lst none 0) (.tuple #[Al.zero.val none 0, .int .i64 107]) rfl ?_ ?_ (show NextT Al.zero 107 w _ _ from ⟨rfl, ?_⟩)
  · intro W hW
    have r0 := hW 0 (by simp)
    have r1 := hW 1 (by simp)
    have r2 := hW 2 (by simp)
    have r3 := hW 3 (by simp)
    have r4 := hW 4 (by simp)
    have r5 := hW 5 (by simp)
    have r6 := hW 6 (by simp)
    have r7 := hW 7 (by simp)
    have r8 := hW 8 (by simp)
    clear hW
    simp only [List.getElem_cons_zero, List.getElem_cons_succ] at r0 r1 r2 r3 r4 r5 r6 r7 r8
    simp [results, Tryz.results43, go_sem, r0, r1, r2, r3, r4, r5, r6, r7, r8]
  · refine lt9 ?_
    simp [go_sem, hcw1]
  · exact below_setCells (by omega) _ _ _ _ Hw1.out

set_option maxRecDepth 100000 in
set_option maxHeartbeats 1000000 in
theorem next_108 (ev : ByteArray) (ver tm cn co grid before : Int) (cells : List Int) (A : Option Addr) (c : Nat) (t : Int) (w : World) (hk : okA ⟨ev, ver, tm, cn, co, grid, cells, false, before⟩ = true) (ht : t < tm) (h : AIn w ⟨ev, ver, tm, cn, co, grid, cells, false, before⟩ A c) :
    Calls Tryz.prog 43 #[(⟨ev, ver, tm, cn, co, grid, cells, false, before⟩ : Alr).val A c, .int .i64 t] w (NextT Al.zero 108 w) := by
  have HS := Lib.hid h
  have HK := Lib.hid hk
  have ht' : decide (t < tm) = true := decide_eq_true ht
  clear h hk
  go_enter Tryz.func43, Tryz.ntmps43
  go_wp2_with fail
  refine (validA_is ⟨ev, ver, tm, cn, co, grid, cells, false, before⟩ A c _ true HK.out (HS.out.below (by (repeat (first | exact Below.refl _ _ | assumption | refine below_drewN ?_ _ | refine Below.drew ?_ | refine Below.setCell ?_ (by first | omega | (simp; done) | (simp; omega)) _ | refine Below.alloc ?_ (by first | omega | (simp; done) | (simp; omega)) _))))).mono ?_
  rintro e w1 ⟨rfl, hb⟩
  obtain ⟨hcw1, hfw1⟩ := bcell hb
  have Hw1 := Lib.hid ((show Below w.heap.size w _ from (by repeat (first | exact Below.refl _ _ | assumption | refine below_drewN ?_ _ | refine Below.drew ?_ | refine Below.setCell ?_ (by first | omega | (simp; done) | (simp; omega)) _ | refine Below.alloc ?_ (by first | omega | (simp; done) | (simp; omega)) _))).trans (hb.mono (by first | omega | (simp; done) | (simp; omega))))
  have hzw1 := hb.size
  try simp at hzw1
  clear hb
  have hz3 : w.heap.size + 1 < w1.heap.size := by omega
  have hz4 : w.heap.size < w1.heap.size := by omega
  go_wp2_with fail
  refine finCells (w := w1) (w.heap.size + 1) (Al.zero.lst none 0) (.tuple #[Al.zero.val none 0, .int .i64 108]) rfl ?_ ?_ (show NextT Al.zero 108 w _ _ from ⟨rfl, ?_⟩)
  · intro W hW
    have r0 := hW 0 (by simp)
    have r1 := hW 1 (by simp)
    have r2 := hW 2 (by simp)
    have r3 := hW 3 (by simp)
    have r4 := hW 4 (by simp)
    have r5 := hW 5 (by simp)
    have r6 := hW 6 (by simp)
    have r7 := hW 7 (by simp)
    have r8 := hW 8 (by simp)
    clear hW
    simp only [List.getElem_cons_zero, List.getElem_cons_succ] at r0 r1 r2 r3 r4 r5 r6 r7 r8
    simp [results, Tryz.results43, go_sem, r0, r1, r2, r3, r4, r5, r6, r7, r8]
  · refine lt9 ?_
    simp [go_sem, hcw1]
  · exact below_setCells (by omega) _ _ _ _ Hw1.out
end Go.Proofs.YtmpbhngjkbidcaaGreatDoor

/-
  The walks of Withdraw, Follow and Print, of the program.
-/
namespace Go.Proofs.YtmpbhngjkbidcaaGreatDoor
open Go.RowKit Al

/-- What Print gives. -/
theorem Print_t (a : Alr) (A : Option Addr) (c : Nat) (w : World) (hk : okA a = true) (h : AIn w a A c) (hr : Rdy w) :
    Calls Tryz.prog 22 #[a.val A c] w fun e w' => e = .returned (.tuple #[.string ⟨(textL a).toArray⟩, .int .i64 0]) ∧ Below w.heap.size w w' := by
  have HS := Lib.hid h
  have HK := Lib.hid hk
  have HR := Lib.hid hr
  clear h hk hr
  go_enter Tryz.func22, Tryz.ntmps22
  go_wp2_with fail
  refine (validA_is a A c _ true HK.out (HS.out.below (by (repeat (first | exact Below.refl _ _ | assumption | refine below_drewN ?_ _ | refine Below.drew ?_ | refine Below.setCell ?_ (by first | omega | (simp; done) | (simp; omega)) _ | refine Below.alloc ?_ (by first | omega | (simp; done) | (simp; omega)) _))))).mono ?_
  rintro e w1 ⟨rfl, hb⟩
  obtain ⟨hcw1, hfw1⟩ := bcell hb
  have Hw1 := Lib.hid ((show Below w.heap.size w _ from (by repeat (first | exact Below.refl _ _ | assumption | refine below_drewN ?_ _ | refine Below.drew ?_ | refine Below.setCell ?_ (by first | omega | (simp; done) | (simp; omega)) _ | refine Below.alloc ?_ (by first | omega | (simp; done) | (simp; omega)) _))).trans (hb.mono (by first | omega | (simp; done) | (simp; omega))))
  have hzw1 := hb.size
  try simp at hzw1
  clear hb
  have hz4 : w.heap.size < w1.heap.size := by omega
  go_wp2_with fail
  refine (text_ a A c w1.heap.size _ (okA_good HK.out) (HS.out.below Hw1.out).sl (Nat.le_refl _) (HR.out.below Hw1.out).tab (HR.out.below Hw1.out).big).mono ?_
  rintro e w2 ⟨rfl, hb⟩
  obtain ⟨hcw2, hfw2⟩ := bcell hb
  have Hw2 := Lib.hid ((show Below w.heap.size w _ from (by repeat (first | exact Below.refl _ _ | exact (Hw1).out | refine below_drewN ?_ _ | refine Below.drew ?_ | refine Below.setCell ?_ (by first | omega | (simp; done) | (simp; omega)) _ | refine Below.alloc ?_ (by first | omega | (simp; done) | (simp; omega)) _))).trans (hb.mono (by first | omega | (simp; done) | (simp; omega))))
  have hzw2 := hb.size
  try simp at hzw2
  clear hb
  go_wp2_with fail
  go_ret2
  exact ⟨rfl, Hw2.out⟩

theorem next_d (ev : ByteArray) (ver tm cn co grid before d : Int) (cells : List Int) (A : Option Addr) (c : Nat) (t : Int) (w : World) (hd : digA ⟨ev, ver, tm, cn, co, grid, cells, false, before⟩ = d) (hk : okA ⟨ev, ver, tm, cn, co, grid, cells, false, before⟩ = true) (ht : tm ≤ t) (h : AIn w ⟨ev, ver, tm, cn, co, grid, cells, false, before⟩ A c) (hr : Rdy w) :
    Calls Tryz.prog 43 #[(⟨ev, ver, tm, cn, co, grid, cells, false, before⟩ : Alr).val A c, .int .i64 t] w (NextT ⟨ev, ver + 1, t, cn, co, grid, [], false, d⟩ 0 w) := by
  subst hd
  exact next_t ev ver tm cn co grid before cells A c t w hk (by omega) h hr

set_option maxRecDepth 100000 in
set_option maxHeartbeats 1000000 in
/-- Withdraw, of an alert that may be withdrawn. -/
theorem Withdraw_t (ev : ByteArray) (ver tm cn co grid before d : Int) (cells : List Int) (A : Option Addr) (c : Nat) (t : Int) (w : World) (hd : digA ⟨ev, ver, tm, cn, co, grid, cells, false, before⟩ = d) (hk : okA ⟨ev, ver, tm, cn, co, grid, cells, false, before⟩ = true) (ht : tm ≤ t)
    (h : AIn w ⟨ev, ver, tm, cn, co, grid, cells, false, before⟩ A c) (hr : Rdy w) (hn : okA ⟨ev, ver + 1, t, cn, co, grid, [], true, d⟩ = true) :
    Calls Tryz.prog 14 #[(⟨ev, ver, tm, cn, co, grid, cells, false, before⟩ : Alr).val A c, .int .i64 t] w
      (OwnT w.heap.size ⟨ev, ver + 1, t, cn, co, grid, [], true, d⟩ 0 w) := by
  have HS := Lib.hid h
  have HK := Lib.hid hk
  have HR := Lib.hid hr
  have HN := Lib.hid hn
  have HE := Lib.hid h.ev
  have HD := Lib.hid hd
  have HT := Lib.hid ht
  clear h hk hr hn hd ht
  go_enter Tryz.func14, Tryz.ntmps14
  go_wp2_with fail
  refine (next_d ev ver tm cn co grid before d cells A c t _ HD.out HK.out HT.out (HS.out.below (by (repeat (first | exact Below.refl _ _ | assumption | refine below_drewN ?_ _ | refine Below.drew ?_ | refine Below.setCell ?_ (by first | omega | (simp; done) | (simp; omega)) _ | refine Below.alloc ?_ (by first | omega | (simp; done) | (simp; omega)) _)))) (HR.out.below (by (repeat (first | exact Below.refl _ _ | assumption | refine below_drewN ?_ _ | refine Below.drew ?_ | refine Below.setCell ?_ (by first | omega | (simp; done) | (simp; omega)) _ | refine Below.alloc ?_ (by first | omega | (simp; done) | (simp; omega)) _))))).mono ?_
  rintro e w1 ⟨rfl, hb⟩
  obtain ⟨hcw1, hfw1⟩ := bcell hb
  have Hw1 := Lib.hid ((show Below w.heap.size w _ from (by repeat (first | exact Below.refl _ _ | assumption | refine below_drewN ?_ _ | refine Below.drew ?_ | refine Below.setCell ?_ (by first | omega | (simp; done) | (simp; omega)) _ | refine Below.alloc ?_ (by first | omega | (simp; done) | (simp; omega)) _))).trans (hb.mono (by first | omega | (simp; done) | (simp; omega))))
  have hzw1 := hb.size
  try simp at hzw1
  clear hb
  have hz3 : w.heap.size + 1 < w1.heap.size := by omega
  have hz4 : w.heap.size < w1.heap.size := by omega
  go_wp2_with fail
  refine (drafted_t ⟨ev, ver + 1, t, cn, co, grid, [], true, d⟩ none 0 _ HN.out ⟨HE.out, Sl.nilS _ _ _⟩).mono ?_
  rintro e w2 ⟨A', c', rfl, hown, hbw⟩
  obtain ⟨hcw2, hfw2⟩ := bcell hbw
  have HB := Lib.hid ((show Below w.heap.size w _ from (by repeat (first | exact Below.refl _ _ | exact (Hw1).out | refine below_drewN ?_ _ | refine Below.drew ?_ | refine Below.setCell ?_ (by first | omega | (simp; done) | (simp; omega)) _ | refine Below.alloc ?_ (by first | omega | (simp; done) | (simp; omega)) _))).trans (hbw.mono (by first | omega | (simp; done) | (simp; omega))))
  have HO := Lib.hid hown
  have hz2 := hbw.size
  simp at hz2
  clear hbw hown
  have hz5 : w.heap.size + 1 < w2.heap.size := by omega
  go_wp2_with fail
  refine finCells (w := w2) (w.heap.size + 1) (Al.Alr.lst ⟨ev, ver + 1, t, cn, co, grid, [], true, d⟩ A' c') (.tuple #[(⟨ev, ver + 1, t, cn, co, grid, [], true, d⟩ : Alr).val A' c', .int .i64 0]) rfl ?_ ?_ (show OwnT w.heap.size _ 0 w _ _ from ⟨A', c', rfl, ?_, ?_⟩)
  · intro W hW
    have r0 := hW 0 (by simp)
    have r1 := hW 1 (by simp)
    have r2 := hW 2 (by simp)
    have r3 := hW 3 (by simp)
    have r4 := hW 4 (by simp)
    have r5 := hW 5 (by simp)
    have r6 := hW 6 (by simp)
    have r7 := hW 7 (by simp)
    have r8 := hW 8 (by simp)
    clear hW
    simp only [List.getElem_cons_zero, List.getElem_cons_succ] at r0 r1 r2 r3 r4 r5 r6 r7 r8
    simp [results, Tryz.results14, go_sem, r0, r1, r2, r3, r4, r5, r6, r7, r8]
  · refine lt9 ?_
    have hz6 : w.heap.size + 1 < w1.heap.size + 1 := by omega
    simp [go_sem, hcw1, hcw2, hz3, hz6]
  · refine own_more (base := w1.heap.size + 1) (own_setCells ?_ _ _ _ ?_) ?_
    · omega
    · have := HO.out
      simp at this
      exact this
    · omega
  · exact below_setCells (by omega) _ _ _ _ HB.out
end Go.Proofs.YtmpbhngjkbidcaaGreatDoor

/-
  The walks of Follow and Withdraw, of the program: given what next and drafted return.
-/
namespace Go.Proofs.YtmpbhngjkbidcaaGreatDoor
open Go.RowKit Al

/-- What next says of an alert at a time, in this world and those that grow from it. -/
def NextSays (a : Alr) (A : Option Addr) (c : Nat) (t : Int) (b : Alr) (k : Int) (w : World) : Prop :=
  ∀ w', Below w.heap.size w w' → Calls Tryz.prog 43 #[a.val A c, .int .i64 t] w' (NextT b k w')

/-- The end of a function whose result is written to a block of cells, a new block behind it. -/
theorem finCellsA {P : Program} {fn : Func} {R : Ending → World → Prop} {a : Act} {w : World} {o : Obj} (b : Nat) (vs : List Value) (v : Value) (hd : a.defers = []) (hb : b < w.heap.size)
    (hres : ∀ W : World, (∀ j (hj : j < vs.length), W.cell? ⟨b, j, none⟩ = some vs[j]) → (results fn a.tmps).run P W = .ok v W)
    (his : ∀ j, j < vs.length → (w.cell? ⟨b, j, none⟩).isSome = true) (hR : R (.returned v) ((w.setCells b 0 vs).alloc o)) : bodyPost P fn R .ret a ((w.setCells b 0 vs).alloc o) := by
  refine bodyPost_ret (hres _ fun j hj => ?_) hd hR
  have h1 := World.cell?_setCells_in b vs 0 w (fun j hj => by rw [Nat.zero_add]; exact his j hj) j hj
  rw [Nat.zero_add] at h1
  rw [← h1]
  have hb' : b < (w.setCells b 0 vs).heap.size := Nat.lt_of_lt_of_le hb (below_setCells (n := 0) (Nat.zero_le _) vs 0 w w (Below.refl _ _)).size
  exact ((Below.refl (w.setCells b 0 vs).heap.size _).alloc (Nat.le_refl _) o).cell (p := ⟨b, j, none⟩) hb'

set_option maxRecDepth 100000 in
set_option maxHeartbeats 1000000 in
theorem Withdraw_e (a : Alr) (A : Option Addr) (c : Nat) (t k : Int) (w : World) (hk : (k == 0) = false) (hn : NextSays a A c t Al.zero k w) :
    Calls Tryz.prog 14 #[a.val A c, .int .i64 t] w (OwnT w.heap.size Al.zero k w) := by
  have hk' : (k != 0) = true := by rw [bne, hk]; rfl
  go_enter Tryz.func14, Tryz.ntmps14
  go_wp2_with fail
  refine (hn _ (by (repeat (first | exact Below.refl _ _ | assumption | refine below_drewN ?_ _ | refine Below.drew ?_ | refine Below.setCell ?_ (by first | omega | (simp; done) | (simp; omega)) _ | refine Below.alloc ?_ (by first | omega | (simp; done) | (simp; omega)) _)))).mono ?_
  rintro e w1 ⟨rfl, hb⟩
  obtain ⟨hcw1, hfw1⟩ := bcell hb
  have Hw1 := Lib.hid ((show Below w.heap.size w _ from (by repeat (first | exact Below.refl _ _ | assumption | refine below_drewN ?_ _ | refine Below.drew ?_ | refine Below.setCell ?_ (by first | omega | (simp; done) | (simp; omega)) _ | refine Below.alloc ?_ (by first | omega | (simp; done) | (simp; omega)) _))).trans (hb.mono (by first | omega | (simp; done) | (simp; omega))))
  have hzw1 := hb.size
  try simp at hzw1
  clear hb
  have hz3 : w.heap.size + 1 < w1.heap.size := by omega
  go_wp2_with fail
  refine finCellsA (w := w1) (w.heap.size + 1) (Al.zero.lst none 0) (.tuple #[Al.zero.val none 0, .int .i64 k]) rfl hz3 ?_ ?_ (show OwnT w.heap.size Al.zero k w _ _ from ⟨none, 0, rfl, zero_row _ _, ?_⟩)
  · intro W hW
    have r0 := hW 0 (by simp)
    have r1 := hW 1 (by simp)
    have r2 := hW 2 (by simp)
    have r3 := hW 3 (by simp)
    have r4 := hW 4 (by simp)
    have r5 := hW 5 (by simp)
    have r6 := hW 6 (by simp)
    have r7 := hW 7 (by simp)
    have r8 := hW 8 (by simp)
    clear hW
    simp only [List.getElem_cons_zero, List.getElem_cons_succ] at r0 r1 r2 r3 r4 r5 r6 r7 r8
    simp [results, Tryz.results14, go_sem, r0, r1, r2, r3, r4, r5, r6, r7, r8]
  · refine lt9 ?_
    simp [go_sem, hcw1]
  · have hb := below_setCells (n := w.heap.size) (b := w.heap.size + 1) (by omega) (Al.zero.lst none 0) 0 w w1 Hw1.out
    exact hb.alloc hb.size _

set_option maxRecDepth 100000 in
set_option maxHeartbeats 1000000 in
theorem Follow_e (a : Alr) (A : Option Addr) (c : Nat) (t cn co g : Int) (D : Option Addr) (dl dc : Nat) (k : Int) (w : World) (hk : (k == 0) = false) (hn : NextSays a A c t Al.zero k w) :
    Calls Tryz.prog 13 #[a.val A c, .int .i64 t, .agg #[.int .i64 cn, .int .i64 co], .int .i64 g, .slice D dl dc] w (OwnT w.heap.size Al.zero k w) := by
  have hk' : (k != 0) = true := by rw [bne, hk]; rfl
  go_enter Tryz.func13, Tryz.ntmps13
  go_wp2_with fail
  refine (hn _ (by (repeat (first | exact Below.refl _ _ | assumption | refine below_drewN ?_ _ | refine Below.drew ?_ | refine Below.setCell ?_ (by first | omega | (simp; done) | (simp; omega)) _ | refine Below.alloc ?_ (by first | omega | (simp; done) | (simp; omega)) _)))).mono ?_
  rintro e w1 ⟨rfl, hb⟩
  obtain ⟨hcw1, hfw1⟩ := bcell hb
  have Hw1 := Lib.hid ((show Below w.heap.size w _ from (by repeat (first | exact Below.refl _ _ | assumption | refine below_drewN ?_ _ | refine Below.drew ?_ | refine Below.setCell ?_ (by first | omega | (simp; done) | (simp; omega)) _ | refine Below.alloc ?_ (by first | omega | (simp; done) | (simp; omega)) _))).trans (hb.mono (by first | omega | (simp; done) | (simp; omega))))
  have hzw1 := hb.size
  try simp at hzw1
  clear hb
  have hz3 : w.heap.size + 2 < w1.heap.size := by omega
  go_wp2_with fail
  refine finCellsA (w := w1) (w.heap.size + 1 + 1) (Al.zero.lst none 0) (.tuple #[Al.zero.val none 0, .int .i64 k]) rfl hz3 ?_ ?_ (show OwnT w.heap.size Al.zero k w _ _ from ⟨none, 0, rfl, zero_row _ _, ?_⟩)
  · intro W hW
    have r0 := hW 0 (by simp)
    have r1 := hW 1 (by simp)
    have r2 := hW 2 (by simp)
    have r3 := hW 3 (by simp)
    have r4 := hW 4 (by simp)
    have r5 := hW 5 (by simp)
    have r6 := hW 6 (by simp)
    have r7 := hW 7 (by simp)
    have r8 := hW 8 (by simp)
    clear hW
    simp only [List.getElem_cons_zero, List.getElem_cons_succ] at r0 r1 r2 r3 r4 r5 r6 r7 r8
    simp [results, Tryz.results13, go_sem, r0, r1, r2, r3, r4, r5, r6, r7, r8]
  · refine lt9 ?_
    simp [go_sem, hcw1]
  · have hb := below_setCells (n := w.heap.size) (b := w.heap.size + 1 + 1) (by omega) (Al.zero.lst none 0) 0 w w1 Hw1.out
    exact hb.alloc hb.size _

/-- What drafted makes of an alert. -/
def draftA (a : Alr) : Alr := if okA a then a else Al.zero
theorem draftA_t {a : Alr} (h : okA a = true) : draftA a = a := by unfold draftA; rw [h]; rfl
theorem draftA_f {a : Alr} (h : okA a = false) : draftA a = Al.zero := by unfold draftA; rw [h]; rfl
/-- What drafted says of an alert, in this world and those that grow from it. -/
def DraftSays (a : Alr) (A : Option Addr) (c : Nat) (x : Alr) (k : Int) (w : World) : Prop :=
  ∀ w', Below w.heap.size w w' → Calls Tryz.prog 42 #[a.val A c] w' (OwnT w'.heap.size x k w')
theorem drafted_ (a : Alr) (A : Option Addr) (c : Nat) (w : World) (h : AIn w a A c) : DraftSays a A c (draftA a) (errA (okA a) 101) w := by
  intro w' hb
  by_cases hk : okA a = true
  · rw [draftA_t hk, errA_t hk]; exact drafted_t a A c w' hk (h.below hb)
  · have hk' : okA a = false := by simpa using hk
    rw [draftA_f hk', errA_f hk']; exact drafted_f a A c w' hk' (h.below hb)

set_option maxRecDepth 100000 in
set_option maxHeartbeats 1000000 in
theorem Withdraw_n (a : Alr) (A : Option Addr) (c : Nat) (t : Int) (ev : ByteArray) (ver tm cn co grid before : Int) (x : Alr) (k : Int) (w : World) (hn : NextSays a A c t ⟨ev, ver, tm, cn, co, grid, [], false, before⟩ 0 w)
    (hd : DraftSays ⟨ev, ver, tm, cn, co, grid, [], true, before⟩ none 0 x k w) :
    Calls Tryz.prog 14 #[a.val A c, .int .i64 t] w (OwnT w.heap.size x k w) := by
  go_enter Tryz.func14, Tryz.ntmps14
  go_wp2_with fail
  refine (hn _ (by (repeat (first | exact Below.refl _ _ | assumption | refine below_drewN ?_ _ | refine Below.drew ?_ | refine Below.setCell ?_ (by first | omega | (simp; done) | (simp; omega)) _ | refine Below.alloc ?_ (by first | omega | (simp; done) | (simp; omega)) _)))).mono ?_
  rintro e w1 ⟨rfl, hb⟩
  obtain ⟨hcw1, hfw1⟩ := bcell hb
  have Hw1 := Lib.hid ((show Below w.heap.size w _ from (by repeat (first | exact Below.refl _ _ | assumption | refine below_drewN ?_ _ | refine Below.drew ?_ | refine Below.setCell ?_ (by first | omega | (simp; done) | (simp; omega)) _ | refine Below.alloc ?_ (by first | omega | (simp; done) | (simp; omega)) _))).trans (hb.mono (by first | omega | (simp; done) | (simp; omega))))
  have hzw1 := hb.size
  try simp at hzw1
  clear hb
  have hz3 : w.heap.size + 1 < w1.heap.size := by omega
  have hz4 : w.heap.size < w1.heap.size := by omega
  go_wp2_with fail
  refine (hd _ (by repeat (first | exact Below.refl _ _ | exact (Hw1).out | refine below_drewN ?_ _ | refine Below.drew ?_ | refine Below.setCell ?_ (by first | omega | (simp; done) | (simp; omega)) _ | refine Below.alloc ?_ (by first | omega | (simp; done) | (simp; omega)) _))).mono ?_
  rintro e w2 ⟨A', c', rfl, hown, hbw⟩
  obtain ⟨hcw2, hfw2⟩ := bcell hbw
  have HB := Lib.hid ((show Below w.heap.size w _ from (by repeat (first | exact Below.refl _ _ | exact (Hw1).out | refine below_drewN ?_ _ | refine Below.drew ?_ | refine Below.setCell ?_ (by first | omega | (simp; done) | (simp; omega)) _ | refine Below.alloc ?_ (by first | omega | (simp; done) | (simp; omega)) _))).trans (hbw.mono (by first | omega | (simp; done) | (simp; omega))))
  have HO := Lib.hid hown
  have hz2 := hbw.size
  simp at hz2
  clear hbw hown
  have hz5 : w.heap.size + 1 < w2.heap.size := by omega
  go_wp2_with fail
  refine finCells (w := w2) (w.heap.size + 1) (x.lst A' c') (.tuple #[x.val A' c', .int .i64 k]) rfl ?_ ?_ (show OwnT w.heap.size x k w _ _ from ⟨A', c', rfl, ?_, ?_⟩)
  · intro W hW
    have r0 := hW 0 (by simp)
    have r1 := hW 1 (by simp)
    have r2 := hW 2 (by simp)
    have r3 := hW 3 (by simp)
    have r4 := hW 4 (by simp)
    have r5 := hW 5 (by simp)
    have r6 := hW 6 (by simp)
    have r7 := hW 7 (by simp)
    have r8 := hW 8 (by simp)
    clear hW
    simp only [List.getElem_cons_zero, List.getElem_cons_succ] at r0 r1 r2 r3 r4 r5 r6 r7 r8
    simp [results, Tryz.results14, go_sem, r0, r1, r2, r3, r4, r5, r6, r7, r8]
  · refine lt9 ?_
    have hz6 : w.heap.size + 1 < w1.heap.size + 1 := by omega
    simp [go_sem, hcw1, hcw2, hz3, hz6]
  · refine own_more (base := w1.heap.size + 1) (own_setCells ?_ _ _ _ ?_) ?_
    · omega
    · have := HO.out
      simp at this
      exact this
    · omega
  · exact below_setCells (by omega) _ _ _ _ HB.out

set_option maxRecDepth 100000 in
set_option maxHeartbeats 1000000 in
theorem Follow_n (a : Alr) (A : Option Addr) (c : Nat) (t cn co g : Int) (l : List Int) (D : Option Addr) (dc : Nat) (ev : ByteArray) (ver tm cn' co' grid before : Int) (x : Alr) (k : Int) (w : World) (hn : NextSays a A c t ⟨ev, ver, tm, cn', co', grid, [], false, before⟩ 0 w)
    (hd : DraftSays ⟨ev, ver, tm, cn, co, g, l, false, before⟩ D dc x k w) :
    Calls Tryz.prog 13 #[a.val A c, .int .i64 t, .agg #[.int .i64 cn, .int .i64 co], .int .i64 g, .slice D l.length dc] w (OwnT w.heap.size x k w) := by
  go_enter Tryz.func13, Tryz.ntmps13
  go_wp2_with fail
  refine (hn _ (by (repeat (first | exact Below.refl _ _ | assumption | refine below_drewN ?_ _ | refine Below.drew ?_ | refine Below.setCell ?_ (by first | omega | (simp; done) | (simp; omega)) _ | refine Below.alloc ?_ (by first | omega | (simp; done) | (simp; omega)) _)))).mono ?_
  rintro e w1 ⟨rfl, hb⟩
  obtain ⟨hcw1, hfw1⟩ := bcell hb
  have Hw1 := Lib.hid ((show Below w.heap.size w _ from (by repeat (first | exact Below.refl _ _ | assumption | refine below_drewN ?_ _ | refine Below.drew ?_ | refine Below.setCell ?_ (by first | omega | (simp; done) | (simp; omega)) _ | refine Below.alloc ?_ (by first | omega | (simp; done) | (simp; omega)) _))).trans (hb.mono (by first | omega | (simp; done) | (simp; omega))))
  have hzw1 := hb.size
  try simp at hzw1
  clear hb
  have hz3 : w.heap.size + 1 + 1 < w1.heap.size := by omega
  have hz4 : w.heap.size < w1.heap.size := by omega
  have hz7 : w.heap.size + 1 < w1.heap.size := by omega
  go_wp2_with fail
  refine (hd _ (by repeat (first | exact Below.refl _ _ | exact (Hw1).out | refine below_drewN ?_ _ | refine Below.drew ?_ | refine Below.setCell ?_ (by first | omega | (simp; done) | (simp; omega)) _ | refine Below.alloc ?_ (by first | omega | (simp; done) | (simp; omega)) _))).mono ?_
  rintro e w2 ⟨A', c', rfl, hown, hbw⟩
  obtain ⟨hcw2, hfw2⟩ := bcell hbw
  have HB := Lib.hid ((show Below w.heap.size w _ from (by repeat (first | exact Below.refl _ _ | exact (Hw1).out | refine below_drewN ?_ _ | refine Below.drew ?_ | refine Below.setCell ?_ (by first | omega | (simp; done) | (simp; omega)) _ | refine Below.alloc ?_ (by first | omega | (simp; done) | (simp; omega)) _))).trans (hbw.mono (by first | omega | (simp; done) | (simp; omega))))
  have HO := Lib.hid hown
  have hz2 := hbw.size
  simp at hz2
  clear hbw hown
  have hz5 : w.heap.size + 1 + 1 < w2.heap.size := by omega
  go_wp2_with fail
  refine finCells (w := w2) (w.heap.size + 1 + 1) (x.lst A' c') (.tuple #[x.val A' c', .int .i64 k]) rfl ?_ ?_ (show OwnT w.heap.size x k w _ _ from ⟨A', c', rfl, ?_, ?_⟩)
  · intro W hW
    have r0 := hW 0 (by simp)
    have r1 := hW 1 (by simp)
    have r2 := hW 2 (by simp)
    have r3 := hW 3 (by simp)
    have r4 := hW 4 (by simp)
    have r5 := hW 5 (by simp)
    have r6 := hW 6 (by simp)
    have r7 := hW 7 (by simp)
    have r8 := hW 8 (by simp)
    clear hW
    simp only [List.getElem_cons_zero, List.getElem_cons_succ] at r0 r1 r2 r3 r4 r5 r6 r7 r8
    simp [results, Tryz.results13, go_sem, r0, r1, r2, r3, r4, r5, r6, r7, r8]
  · refine lt9 ?_
    have hz6 : w.heap.size + 1 + 1 < w1.heap.size + 1 := by omega
    simp [go_sem, hcw1, hcw2, hz3, hz6]
  · refine own_more (base := w1.heap.size + 1) (own_setCells ?_ _ _ _ ?_) ?_
    · omega
    · have := HO.out
      simp at this
      exact this
    · omega
  · exact below_setCells (by omega) _ _ _ _ HB.out
end Go.Proofs.YtmpbhngjkbidcaaGreatDoor
