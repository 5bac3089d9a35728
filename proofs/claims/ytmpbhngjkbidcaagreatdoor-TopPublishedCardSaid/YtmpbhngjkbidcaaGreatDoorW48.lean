/-
  The keys of the map of groups, sorted: the names of the events, in order.
-/
import Derived.Test.YtmpbhngjkbidcaaGreatDoorW38
import Derived.Test.YtmpbhngjkbidcaaGreatDoorW45
import Derived.Test.YtmpbhngjkbidcaaGreatDoorW46
import Derived.Test.YtmpbhngjkbidcaaGreatDoorW47
import Derived.Maps.RangeWalk
import Derived.Deep.DeepMust
namespace Go.Proofs.YtmpbhngjkbidcaaGreatDoor
open Go.RowKit Al

theorem grp_ev (L : List It) (m : ByteArray) : grp L m.data.toList = L.filter (ofEv m) := by
  unfold grp
  refine List.filter_congr fun x _ => ?_
  unfold ofEv
  rw [Bool.eq_iff_iff, decide_eq_true_eq, beq_iff_eq, Lib.toList_data, Lib.toList_data]
theorem encs_strs (E : List ByteArray) : (E.map fun m => m.data.toList).map encStr = strs E := by
  unfold strs
  rw [List.map_map]
  refine List.map_congr_left fun m _ => ?_
  simp [encStr]
theorem Grp.has {w : World} {B mb : Nat} {L : List It} {f : List UInt8 → Option Value} (h : Grp w B mb L f) (s : List UInt8) : (f s).isSome = true ↔ ∃ x ∈ L, x.n.a.ev.data.toList = s := by
  constructor
  · intro hs
    obtain ⟨v, hv⟩ := Option.isSome_iff_exists.1 hs
    have hp := h.some_ s v hv
    obtain ⟨h1, h2⟩ := List.mem_filter.1 (List.getElem_mem (l := grp L s) hp)
    exact ⟨_, h1, of_decide_eq_true h2⟩
  · rintro ⟨x, hx, e⟩
    cases hf : f s with
    | some v => rfl
    | none =>
      have : x ∈ grp L s := List.mem_filter.2 ⟨hx, decide_eq_true e⟩
      rw [h.none_ s hf] at this
      cases this
theorem size_le_of {w : World} {kt : TypeId} {mb n : Nat} {D : DataW Value} (h : w.ownsMap Tryz.prog kt MapR mb n D) : Maps.size D ≤ n := h.size_le
/-- The names of the events of the groups, sorted, in memory of the call's own. -/
theorem names_ (B mb : Nat) (L : List It) (f : List UInt8 → Option Value) (E : List ByteArray) (w : World) (hE : evW L = E) (h : Grp w B mb L f) (hlen : L.length ≤ 1048576) :
    Calls Tryz.prog 60 #[.func (.func 107) #[] #[.pointer (some ⟨w.heap.size, 0, none⟩)]] (w.alloc (.cells #[.map (some mb)] 138))
      fun e w' => ∃ A c, e = .returned (.slice A E.length c) ∧ w'.ownsRow (w.heap.size + 1) 9 1 (.slice A E.length c) E.length (strs E) ∧ Below (w.heap.size + 1) (w.alloc (.cells #[.map (some mb)] 138)) w' := by
  obtain ⟨D, h1, h2⟩ := h.map
  have hsz := h1.size_le
  refine (Tryz.sortedKeys_string mb _ D MapR w h1 (by unfold maxLen; omega) (by omega)).mono ?_
  rintro e w' ⟨v, ss, rfl, hp, hrow, _, hb⟩
  obtain ⟨s1, s2⟩ := evW_spec L
  have hs := keys_sorted h1 (ss0 := (evW L).map fun m => m.data.toList) (List.pairwise_map.2 s1) (fun s => by
    rw [(h2 s).1, h.has s, List.mem_map]
    constructor
    · rintro ⟨m, hm, rfl⟩
      obtain ⟨x, hx, e⟩ := (s2 m).1 hm
      exact ⟨x, hx, by rw [e]⟩
    · rintro ⟨x, hx, e⟩
      exact ⟨x.n.a.ev, (s2 _).2 ⟨x, hx, rfl⟩, e⟩) hp
  rw [hs, hE, encs_strs] at hrow
  have hl : ss.length = E.length := by
    have := congrArg List.length hs
    rw [List.length_mergeSort, List.length_map, hE] at this
    exact this
  rw [hl] at hrow
  obtain ⟨A, c, rfl⟩ := own_form hrow
  rw [show (w.alloc (.cells #[.map (some mb)] 138)).heap.size = w.heap.size + 1 by simp] at hrow hb
  exact ⟨A, c, rfl, hrow, hb⟩
end Go.Proofs.YtmpbhngjkbidcaaGreatDoor

/-
  The walk of Settle of the program.
-/
namespace Go.Proofs.YtmpbhngjkbidcaaGreatDoor
open Go.RowKit Al
attribute [local go_sem ↓] Go.wp_at_zero Go.wp_at_succ

theorem grown_set (w : World) (p : Addr) (u : Value) : w.grownBy (w.setCell p u) (some p.block) := ⟨rfl, rfl, rfl, by simp, fun i _ hne => Below.heap_setCell w p u i (fun e => hne (by rw [e]))⟩
theorem Kp.alloc {F : Nat → Prop} {a b : World} (h : Kp F a b) (o : Obj) : Kp F a (b.alloc o) := h.then_below ((Below.refl _ b).alloc (Nat.le_refl _) o)
theorem Kp.drew {F : Nat → Prop} {a b : World} (h : Kp F a b) : Kp F a b.drew := h.then_below (Below.refl _ b).drew
theorem heap_new_eq {w : World} {o : Obj} {B : Nat} (h : w.heap.size = B) : (w.alloc o).heap[B]? = some o := h ▸ heap_alloc_new w o
/-- A standing lies in a block. -/
structure StdAt (w : World) (b : Nat) (m : ByteArray) (st v d : Int) : Prop where
  c0 : w.cell? ⟨b, 0, none⟩ = some (.string m)
  c1 : w.cell? ⟨b, 1, none⟩ = some (.int .i64 st)
  c2 : w.cell? ⟨b, 2, none⟩ = some (.int .i64 v)
  c3 : w.cell? ⟨b, 3, none⟩ = some (.int .i64 d)
  f1 : w.frozen? ⟨b, 1, none⟩ = false
  f2 : w.frozen? ⟨b, 2, none⟩ = false
  f3 : w.frozen? ⟨b, 3, none⟩ = false
  lt : b < w.heap.size
theorem StdAt.keep {w w' : World} {b : Nat} {m : ByteArray} {st v d : Int} (h : StdAt w b m st v d) {F : Nat → Prop} (k : Kp F w w') (hF : ¬ F b) : StdAt w' b m st v d :=
  ⟨(k.cell (p := ⟨b, 0, none⟩) h.lt hF).trans h.c0, (k.cell (p := ⟨b, 1, none⟩) h.lt hF).trans h.c1, (k.cell (p := ⟨b, 2, none⟩) h.lt hF).trans h.c2, (k.cell (p := ⟨b, 3, none⟩) h.lt hF).trans h.c3,
    (k.frozen (p := ⟨b, 1, none⟩) h.lt hF).trans h.f1, (k.frozen (p := ⟨b, 2, none⟩) h.lt hF).trans h.f2, (k.frozen (p := ⟨b, 3, none⟩) h.lt hF).trans h.f3, Nat.lt_of_lt_of_le h.lt k.size⟩
theorem StdAt.below {w w' : World} {b B : Nat} {m : ByteArray} {st v d : Int} (h : StdAt w b m st v d) (hb : Below B w w') (hB : w.heap.size ≤ B) : StdAt w' b m st v d :=
  h.keep (F := fun _ => False) (Kp.of_below ⟨hb.os, hb.tape, hb.output, hb.size, fun k hk => hb.block k (Nat.lt_of_lt_of_le hk hB)⟩) (fun e => e)
theorem StdAt.made (w : World) (m : ByteArray) : StdAt (w.alloc (.cells #[.string m, .int .i64 1, .int .i64 0, .int .i64 0] 84)) w.heap.size m 1 0 0 := by
  refine ⟨?_, ?_, ?_, ?_, ?_, ?_, ?_, ?_⟩ <;> simp [go_sem]
theorem StdAt.set1 {w : World} {b : Nat} {m : ByteArray} {st v d : Int} (h : StdAt w b m st v d) (u : Int) : StdAt (w.setCell ⟨b, 1, none⟩ (.int .i64 u)) b m u v d := by
  obtain ⟨c0, c1, c2, c3, f1, f2, f3, lt⟩ := h
  refine ⟨?_, ?_, ?_, ?_, ?_, ?_, ?_, ?_⟩ <;> simp [go_sem, c0, c1, c2, c3, f1, f2, f3, lt]
/-- The best version and its digest, of the first notices. -/
def digAt (L : List It) (i : Nat) : Int := match L[i]? with
  | some x => digA x.n.a
  | none => 0
def bvd (L : List It) (k : Nat) : Int × Int := if k = 0 then (0, 0) else (verAt L (bestI L k), digAt L (bestI L k))
theorem bvd_yes {L : List It} {k : Nat} (hk : k < L.length) (h : (bvd L k).1 < L[k].n.a.ver) : bvd L (k + 1) = (L[k].n.a.ver, digA L[k].n.a) := by
  have hd : digAt L k = digA L[k].n.a := by unfold digAt; rw [List.getElem?_eq_getElem hk]
  unfold bvd
  rw [if_neg (by omega)]
  unfold bestI
  by_cases h0 : k = 0
  · subst h0
    rw [show bestI L 0 = 0 from rfl, ite_self, verAt_eq hk, hd]
  · unfold bvd at h
    rw [if_neg h0] at h
    rw [if_pos (by rw [verAt_eq hk]; exact h), verAt_eq hk, hd]
theorem bvd_no {L : List It} {k : Nat} (hk : k < L.length) (h1 : 1 ≤ L[k].n.a.ver) (h : ¬ (bvd L k).1 < L[k].n.a.ver) : bvd L (k + 1) = bvd L k := by
  by_cases h0 : k = 0
  · subst h0
    exact absurd (by show (0 : Int) < _; omega) h
  · unfold bvd at h ⊢
    rw [if_neg h0] at h
    rw [if_neg (by omega), if_neg h0]
    have e : bestI L (k + 1) = bestI L k := by
      show (if verAt L (bestI L k) < verAt L k then k else bestI L k) = _
      rw [if_neg (by rw [verAt_eq hk]; exact h)]
    rw [e]
theorem bvd_end {L : List It} {m : ByteArray} (hw : L.any (fun x => x.n.a.wd) = false) (hd : disp L L.length = false) : standS m L = ⟨m, 1, (bvd L L.length).1, (bvd L L.length).2⟩ := by
  unfold standS
  rw [if_neg (by simp [hw]), if_neg (by simp [hd])]
  by_cases hne : 0 < L.length
  · have hb := bestI_lt L L.length hne
    rw [List.getElem?_eq_getElem hb]
    unfold bvd
    rw [if_neg (by omega)]
    unfold digAt
    rw [verAt_eq hb, List.getElem?_eq_getElem hb]
  · obtain rfl := List.eq_nil_of_length_eq_zero (show L.length = 0 by omega)
    rfl
theorem filtWd_is (L : List It) (N : Option Addr) (nc : Nat) (Wd : List It) (w : World) (hW : L.filter (fun x => x.n.a.wd) = Wd) (hL : Sl w w.heap.size 10 N L.length nc (itCells L)) (hI : ∀ x ∈ L, NIn w x.n x.A x.c x.S x.sc) (hlen : L.length ≤ 1048576) :
    Calls Tryz.prog 62 #[.slice N L.length nc, .func (.func 63) #[] #[]] w (OwnIts Wd w) := hW ▸ filtWd_ L N nc w hL hI hlen
theorem digest_is (a : Alr) (A : Option Addr) (c : Nat) (v : Int) (w : World) (hv : digA a = v) (hk : okA a = true) (h : AIn w a A c) (hr : Rdy w) :
    Calls Tryz.prog 50 #[a.val A c] w fun e w' => e = .returned (.int .i64 v) ∧ Below w.heap.size w w' := hv ▸ digestA a A c w hk h hr
/-- While the versions are gone through: some version has two texts, or none of those that have come. -/
def LvRel (w5 : World) (mb2 r n xb : Nat) (D : DataW Value) (m : ByteArray) (G : List It) (wz : World) : Prop :=
  ∃ (left : Lit → Bool) (cnt : Nat) (st : Int), wz.ranges Tryz.prog 3 MapR mb2 r n D left cnt ∧ StdAt wz xb m st 0 0 ∧ ((st = 3 ∧ ∃ v, 2 ≤ (textsV G v).length) ∨ (st = 1 ∧ ∀ v, 2 ≤ (textsV G v).length → left (.int .i64 v) = true)) ∧ Kp (fun i => i = xb ∨ i = r) w5 wz
def LbRel (w6 : World) (xb : Nat) (m : ByteArray) (G : List It) (i : Value) (wz : World) : Prop := ∃ k : Nat, k ≤ G.length ∧ i = .int .i64 k ∧ StdAt wz xb m 1 (bvd G k).1 (bvd G k).2 ∧ Kp (fun i => i = xb) w6 wz
theorem events_is (ks : List (Int × Int)) (q : Int) (K : Option Addr) (kc : Nat) (L : List It) (N : Option Addr) (nc : Nat) (F : List It) (w : World) (hF : validN ks q L = F) (hv : manyE ks q L.length = 0) (hr : Rin w ks K kc) (ht : Rdy w) (hL : Sl w w.heap.size 10 N L.length nc (itCells L)) (hI : ∀ x ∈ L, NIn w x.n x.A x.c x.S x.sc) (hlen : L.length ≤ 1048576) :
    Calls Tryz.prog 59 #[rollV ks K kc q, .slice N L.length nc] w fun e w' => ∃ (mb B : Nat) (f : List UInt8 → Option Value), e = .returned (.tuple #[.map (some mb), .int .i64 0]) ∧ Grp w' B mb F f ∧ w.heap.size ≤ mb ∧ Below w.heap.size w w' := by
  refine (events_t ks q K kc L N nc w hv hr ht hL hI hlen).mono ?_
  rintro e w' ⟨h1, _, h3⟩
  obtain ⟨mb, B, f, e1, e2, e3⟩ := h1 rfl
  exact ⟨mb, B, f, e1, hF ▸ e2, e3, h3⟩
set_option maxRecDepth 100000 in
set_option maxHeartbeats 2000000 in
theorem settle_e (ks : List (Int × Int)) (q : Int) (K : Option Addr) (kc : Nat) (L : List It) (N : Option Addr) (nc : Nat) (v : Int) (w : World) (hv : manyE ks q L.length = v) (hv0 : ¬ v = 0) (hr : Rin w ks K kc) (hlen : L.length ≤ 1152921504606846976) :
    Calls Tryz.prog 25 #[rollV ks K kc q, .slice N L.length nc] w (OwnSt [] v w) := by
  have HR := Lib.hid hr
  have HV := Lib.hid hv
  have hv1 : (v != 0) = true := by simpa using hv0
  clear hr hv
  go_enter Tryz.func25, Tryz.ntmps25
  go_wp2_with fail
  refine (events_e ks q K kc L N nc v _ HV.out hv0 (HR.out.below (by (repeat (first | exact Below.refl _ _ | assumption | refine below_drewN ?_ _ | refine Below.drew ?_ | refine Below.setCell ?_ (by first | omega | (simp; done) | (simp; omega)) _ | refine Below.alloc ?_ (by first | omega | (simp; done) | (simp; omega)) _)))) hlen).mono ?_
  rintro e w1 ⟨_, he, hb⟩
  obtain rfl := he hv0
  have Hw1 : Hid (Below w.heap.size w w1) := (show Below w.heap.size w _ from by (repeat (first | exact Below.refl _ _ | assumption | refine below_drewN ?_ _ | refine Below.drew ?_ | refine Below.setCell ?_ (by first | omega | (simp; done) | (simp; omega)) _ | refine Below.alloc ?_ (by first | omega | (simp; done) | (simp; omega)) _))).trans (hb.mono (by simp))
  clear he hb
  go_wp2_with fail
  go_ret2
  exact ⟨none, 0, rfl, World.ownsRow_nil _ _ _ _, Hw1.out⟩
set_option maxRecDepth 100000 in
set_option maxHeartbeats 16000000 in
theorem settle_t (ks : List (Int × Int)) (q : Int) (K : Option Addr) (kc : Nat) (L : List It) (N : Option Addr) (nc : Nat) (w : World) (hm : manyE ks q L.length = 0) (hr : Rin w ks K kc) (ht : Rdy w) (hL : Sl w w.heap.size 10 N L.length nc (itCells L)) (hI : ∀ x ∈ L, NIn w x.n x.A x.c x.S x.sc) :
    Calls Tryz.prog 25 #[rollV ks K kc q, .slice N L.length nc] w (OwnSt (settleS ks q L) 0 w) := by
  obtain ⟨i0, hi, hz0, hz1, hz2⟩ := info_parts infoStd
  obtain ⟨ho, hl64⟩ := manyE_zero hm
  obtain ⟨F, hF⟩ : ∃ F, validN ks q L = F := ⟨_, rfl⟩
  obtain ⟨E, hE⟩ : ∃ E, evW F = E := ⟨_, rfl⟩
  have hFm : ∀ x ∈ F, x ∈ L ∧ okA x.n.a = true ∧ x.n.sg.length ≤ 8 := fun x hx => by
    rw [← hF] at hx
    obtain ⟨h1, h2⟩ := List.mem_filter.1 hx
    have h3 := noticeE_zero (show noticeE ks q x.n = 0 by simpa using h2)
    exact ⟨h1, h3.1, Nat.le_trans h3.2 (rollOk_len ho)⟩
  have hFl : F.length ≤ 64 := by rw [← hF]; exact Nat.le_trans (List.length_filter_le _ _) hl64
  have hEl : E.length ≤ 64 := by rw [← hE]; exact Nat.le_trans (evW_len F) hFl
  have hRS : settleS ks q L = E.map fun m => standS m (F.filter (ofEv m)) := by unfold settleS; rw [hF, hE]
  have HEV : Hid (∀ m ∈ E, m.size ≤ maxLen) := fun m hm => by
    rw [← hE] at hm
    obtain ⟨x, hx, e⟩ := ((evW_spec F).2 m).1 hm
    rw [← e]
    exact okA_ev (hFm x hx).2.1
  have HR := Lib.hid hr
  have HT := Lib.hid ht
  have HL := Lib.hid hL
  have HI := Lib.hid hI
  have HM := Lib.hid hm
  have HF := Lib.hid hF
  have HE := Lib.hid hE
  have HFM := Lib.hid hFm
  rw [hRS]
  clear hr ht hL hI hm hF hE hFm hRS ho
  go_enter Tryz.func25, Tryz.ntmps25
  go_wp2_with fail
  refine (events_is ks q K kc L N nc F _ HF.out HM.out (HR.out.below (by (repeat (first | exact Below.refl _ _ | assumption | refine below_drewN ?_ _ | refine Below.drew ?_ | refine Below.setCell ?_ (by first | omega | (simp; done) | (simp; omega)) _ | refine Below.alloc ?_ (by first | omega | (simp; done) | (simp; omega)) _)))) (HT.out.below (by (repeat (first | exact Below.refl _ _ | assumption | refine below_drewN ?_ _ | refine Below.drew ?_ | refine Below.setCell ?_ (by first | omega | (simp; done) | (simp; omega)) _ | refine Below.alloc ?_ (by first | omega | (simp; done) | (simp; omega)) _)))) ((HL.out.below (by (repeat (first | exact Below.refl _ _ | assumption | refine below_drewN ?_ _ | refine Below.drew ?_ | refine Below.setCell ?_ (by first | omega | (simp; done) | (simp; omega)) _ | refine Below.alloc ?_ (by first | omega | (simp; done) | (simp; omega)) _)))).more (by simp)) (fun x hx => (HI.out x hx).below (by (repeat (first | exact Below.refl _ _ | assumption | refine below_drewN ?_ _ | refine Below.drew ?_ | refine Below.setCell ?_ (by first | omega | (simp; done) | (simp; omega)) _ | refine Below.alloc ?_ (by first | omega | (simp; done) | (simp; omega)) _)))) (by omega)).mono ?_
  rintro e w1 ⟨mb, B, f, rfl, hG, hmb, hb⟩
  have Hw1 : Hid (Below w.heap.size w w1) := (show Below w.heap.size w _ from by (repeat (first | exact Below.refl _ _ | assumption | refine below_drewN ?_ _ | refine Below.drew ?_ | refine Below.setCell ?_ (by first | omega | (simp; done) | (simp; omega)) _ | refine Below.alloc ?_ (by first | omega | (simp; done) | (simp; omega)) _))).trans (hb.mono (by simp))
  have z1 := hb.size
  simp at z1
  have HG := Lib.hid hG
  clear hG hb
  go_wp2_with (first
    | (go_at_call 61; refine (Tryz.mapsKeys_string (some mb) w1).mono ?_; rintro e w2 ⟨rfl, rfl⟩)
    | (go_at_call 60; refine (names_ B mb F f E w1 HE.out HG.out (by omega)).mono ?_; rintro e w2 ⟨Q, qc, rfl, hrow2, hb⟩; have HQ := Lib.hid (Sl.of_own hrow2); have Hk : Hid (Below w1.heap.size w1 w2) := ((Below.refl _ w1).alloc (Nat.le_refl _) _).trans (hb.mono (Nat.le_succ _)); have z2 := hb.size; (try simp at z2); clear hb hrow2))
  go_loopw [8, 30] (fun o i wr => SlRel w2 E (fun m => standS m (F.filter (ofEv m))) o i wr) (fun _ i _ => E.length - (Go.RowKit.intOf i).toNat)
  case atStart => exact ⟨0, none, 0, Nat.zero_le _, rfl, rfl, World.ownsRow_nil _ _ _ _, Below.refl _ _⟩
  case round =>
    obtain ⟨k, A, c, hk, rfl, rfl, hrow, hB⟩ := hrel
    have hsz := hB.size
    have HB := Lib.hid hB
    have HRW := Lib.hid hrow
    have HLT : Hid (∀ g, (Value.slice A k c).ownBlock = some g → w2.heap.size ≤ g ∧ g < wr.heap.size) := fun g hg => own_lt hrow hg
    clear hB hrow
    by_cases hlt : k < E.length
    · obtain ⟨eb, eo, rfl, heb, z0⟩ := (HQ.out.below HB.out).str_at hlt
      have j0 : (0 : Int) ≤ (k : Int) := by omega
      have j1 : (k : Int) < (E.length : Int) := by omega
      have heb2 : eb < wr.heap.size := by omega
      have HX := Lib.hid (st_next (g := fun m => standS m (F.filter (ofEv m))) hlt)
      have hev := HEV.out E[k] (List.getElem_mem hlt)
      obtain ⟨m, hmm⟩ : ∃ m, m = E[k] := ⟨_, rfl⟩
      rw [← hmm] at z0 HX hev
      clear hmm
      have HGr : Hid (Grp wr B mb F f) := HG.out.below (Hk.out.trans (HB.out.mono (by omega)))
      obtain ⟨P, pc, hcur, hrowP⟩ := HGr.out.cur m.data.toList
      have hlk := HGr.out.map.look hev
      rw [hcur] at hlk
      rw [grp_ev] at hlk hrowP
      have hGm : ∀ x ∈ F.filter (ofEv m), x ∈ F := fun x hx => (List.mem_filter.1 hx).1
      have hGl : (F.filter (ofEv m)).length ≤ 64 := Nat.le_trans (List.length_filter_le _ _) hFl
      obtain ⟨G, hG⟩ : ∃ G, F.filter (ofEv m) = G := ⟨_, rfl⟩
      have HXX : Hid (∀ s, standS m G = s → stCells ((E.take (k + 1)).map fun m => standS m (F.filter (ofEv m))) = stCells ((E.take k).map fun m => standS m (F.filter (ofEv m))) ++ s.lst) := by
        intro s hs
        rw [HX.out]
        show _ ++ (standS m (F.filter (ofEv m))).lst = _
        rw [hG, hs]
      rw [hG] at hlk hrowP hGm hGl
      have HP := Lib.hid (Sl.of_own hrowP)
      have HGM : Hid (∀ x ∈ G, NIn wr x.n x.A x.c x.S x.sc ∧ okA x.n.a = true ∧ x.n.sg.length ≤ 8) := fun x hx => ⟨(HI.out x (HFM.out x (hGm x hx)).1).below (Hw1.out.trans (Below.mono (Hk.out.trans (HB.out.mono (by omega))) (by omega))), (HFM.out x (hGm x hx)).2⟩
      have HTr : Hid (Rdy wr) := HT.out.below (Hw1.out.trans (Below.mono (Hk.out.trans (HB.out.mono (by omega))) (by omega)))
      obtain ⟨Wd, hWd⟩ : ∃ Wd, G.filter (fun x => x.n.a.wd) = Wd := ⟨_, rfl⟩
      have HWD := Lib.hid hWd
      clear hcur hrowP hG hGm hWd HX
      cases hw : G.any (fun x => x.n.a.wd) with
      | true =>
        have hwl : (0 : Int) < (Wd.length : Int) := by
          have h1 := HWD.out
          obtain ⟨x, hx, e⟩ := List.any_eq_true.1 hw
          have : 0 < Wd.length := by rw [← h1]; exact List.length_pos_of_mem (List.mem_filter.2 ⟨hx, e⟩)
          omega
        have HST := Lib.hid (standS_wd (m := m) hw)
        clear hw
        go_wp2_with (first
          | (go_at_call 62; refine (filtWd_is G P pc _ _ HWD.out ((HP.out.below (by (repeat (first | exact Below.refl _ _ | assumption | refine below_drewN ?_ _ | refine Below.drew ?_ | refine Below.setCell ?_ (by first | omega | (simp; done) | (simp; omega)) _ | refine Below.alloc ?_ (by first | omega | (simp; done) | (simp; omega)) _)))).more (by first | omega | (simp; done) | (simp; omega))) (fun x hx => (HGM.out x hx).1.below (by (repeat (first | exact Below.refl _ _ | assumption | refine below_drewN ?_ _ | refine Below.drew ?_ | refine Below.setCell ?_ (by first | omega | (simp; done) | (simp; omega)) _ | refine Below.alloc ?_ (by first | omega | (simp; done) | (simp; omega)) _)))) (by omega)).mono ?_; rintro e w4 ⟨A4, c4, rfl, _, hb4⟩; obtain ⟨x0, x1, x2, x3, f1, f2, f3, lx⟩ := (StdAt.made wr m).below hb4 (Nat.le_refl _); have HB4 := Lib.hid ((show Below wr.heap.size wr _ from by (repeat (first | exact Below.refl _ _ | assumption | refine below_drewN ?_ _ | refine Below.drew ?_ | refine Below.setCell ?_ (by first | omega | (simp; done) | (simp; omega)) _ | refine Below.alloc ?_ (by first | omega | (simp; done) | (simp; omega)) _))).trans (hb4.mono (by simp))); clear hb4)
          | (at_builtin; go_must (refine wpList_append_lies _ rfl _ _ 80 rfl w2.heap.size 84 i0 (.agg #[.string ⟨#[]⟩, .int .i64 0, .int .i64 0, .int .i64 0]) 4 40 Tryz.underlying80 hi hz0 hz1 hz2 rfl (by decide) (.slice A k c) k _ rfl (own_below HRW.out (Nat.le_refl _) (by repeat (first | exact Below.refl _ _ | exact (HB4).out | refine below_drewN ?_ _ | refine Below.drew ?_ | refine Below.setCell ?_ (by first | omega | (simp; done) | (simp; omega)) _ | refine Below.alloc ?_ (by first | omega | (simp; done) | (simp; omega)) _))) _ 1 1 [.string m, .int .i64 2, .int .i64 0, .int .i64 0] rfl rfl (World.news_of_block (heap_new_eq (by first | rfl | simp))) (std_one ⟨m, _, _, _⟩) (by decide) (by unfold maxLen; omega) (by omega) (by first | omega | (simp; done) | (simp; omega)) _ rfl ?_); intro g cap w9 hown9 hg9 hat9 hlt9))
        go_roundw
        case rel => exact ⟨k + 1, some ⟨g, 0, none⟩, cap, by omega, rfl, by go_num, by rw [HXX.out _ HST.out]; exact hown9, (HB.out.trans (Below.mono (by repeat (first | exact Below.refl _ _ | exact (HB4).out | refine below_drewN ?_ _ | refine Below.drew ?_ | refine Below.setCell ?_ (by first | omega | (simp; done) | (simp; omega)) _ | refine Below.alloc ?_ (by first | omega | (simp; done) | (simp; omega)) _)) hsz)).grown hg9 (by first | omega | (simp; done) | (simp; omega)) (fun g hg => (HLT.out g hg).1)⟩
        case measure => simp [Go.RowKit.intOf]; omega
      | false =>
        have hwl : Wd = [] := by
          have h1 := HWD.out
          rw [← h1]
          refine List.filter_eq_nil_iff.2 fun x hx e => ?_
          have h2 : G.any (fun x => x.n.a.wd) = true := List.any_eq_true.2 ⟨x, hx, e⟩
          rw [hw] at h2
          cases h2
        subst hwl
        have HNW := Lib.hid hw
        clear hw
        have HKr := keyLawI
        go_wp2_with (first
          | (go_at_call 62; refine (filtWd_is G P pc _ _ HWD.out ((HP.out.below (by (repeat (first | exact Below.refl _ _ | assumption | refine below_drewN ?_ _ | refine Below.drew ?_ | refine Below.setCell ?_ (by first | omega | (simp; done) | (simp; omega)) _ | refine Below.alloc ?_ (by first | omega | (simp; done) | (simp; omega)) _)))).more (by first | omega | (simp; done) | (simp; omega))) (fun x hx => (HGM.out x hx).1.below (by (repeat (first | exact Below.refl _ _ | assumption | refine below_drewN ?_ _ | refine Below.drew ?_ | refine Below.setCell ?_ (by first | omega | (simp; done) | (simp; omega)) _ | refine Below.alloc ?_ (by first | omega | (simp; done) | (simp; omega)) _)))) (by omega)).mono ?_; rintro e w4 ⟨A4, c4, rfl, _, hb4⟩; obtain ⟨x0, x1, x2, x3, f1, f2, f3, lx⟩ := (StdAt.made wr m).below hb4 (Nat.le_refl _); have HB4 := Lib.hid ((show Below wr.heap.size wr _ from by (repeat (first | exact Below.refl _ _ | assumption | refine below_drewN ?_ _ | refine Below.drew ?_ | refine Below.setCell ?_ (by first | omega | (simp; done) | (simp; omega)) _ | refine Below.alloc ?_ (by first | omega | (simp; done) | (simp; omega)) _))).trans (hb4.mono (by simp))); clear hb4)
          | (go_at_call 64; refine (versions_ G P pc w4 ((HP.out.below HB4.out).more HB4.out.size) (fun x hx => (HGM.out x hx).1.below HB4.out) (fun x hx => (HGM.out x hx).2.1) (fun x hx => (HGM.out x hx).2.2) hGl (HTr.out.below HB4.out)).mono ?_; rintro e w5 ⟨mb2, n2, f2', g2, tg2, rfl, hV, hmb2, _, hb5⟩; obtain ⟨cc2, D, hD1, hD2, hD3⟩ := hV.map; have HS5 := Lib.hid ((StdAt.mk x0 x1 x2 x3 f1 f2 f3 lx).below hb5 (Nat.le_refl _)); have HB5 := Lib.hid (HB4.out.trans (hb5.mono (by omega))); have z5 := hb5.size; have HV := Lib.hid hV; clear hb5 hV)
          | (at_range; refine wpList_range_own _ rfl _ 145 rfl 3 147 keyLawI Tryz.underlying145 MapR mb2 n2 D rfl hD1 ?_; intro w6 hrg6 hg6 hs6)
          | go_in)
        go_frame
        have HSZ := Lib.hid hD3
        have K56 : Kp (fun _ => False) w5 w6 := (Kp.refl _ _).grown hg6 (fun k hk => by cases hk)
        have hxr := HS5.out.lt
        have HS6 := Lib.hid (HS5.out.keep K56 (fun e => e))
        have HB6 := Lib.hid (HB5.out.grown hg6 HB5.out.size (fun g h => by cases h))
        have HK56 := Lib.hid K56
        have hm2 := hD1.lt
        clear hg6 K56 HS5 HB5 hD1 hD2 hD3 x0 x1 x2 x3 f1 f2 f3
        obtain ⟨xb, hxb⟩ : ∃ xb, xb = wr.heap.size := ⟨_, rfl⟩
        rw [← hxb] at HS6 lx hxr
        rw [← hxb]
        have hx1 : wr.heap.size ≤ xb := by omega
        have hx2 : xb ≤ wr.heap.size := by omega
        clear hxb
        go_loopw [14] (fun _ wz => LvRel w6 mb2 w5.heap.size n2 xb D m G wz) (fun _ wz => wz.rangeLeft mb2 w5.heap.size)
        case atStart =>
          refine ⟨_, _, 1, hrg6, HS6.out, .inr ⟨rfl, fun v hv => ?_⟩, Kp.refl _ _⟩
          rw [(HSZ.out v).1]
          cases hf : f2' v with
          | some u => rfl
          | none => rw [HV.out.non v hf] at hv; exact absurd hv (by simp)
        case round =>
          obtain ⟨left, cnt, st, hrg, hS, hst, hKp⟩ := hrel
          have HSr := Lib.hid hS
          have HKp := Lib.hid hKp
          have HBz := Lib.hid (HB6.out.trans (hKp.below (by omega) (fun i hi => by omega)))
          have zr := hKp.size
          have hrm := hrg.lt
          clear hS hKp
          go_wp2_with (first
            | (at_next; refine wpList_next_ranges _ rfl _ rfl 3 keyLawI MapR (Value.int .i64) (fun v : Value => v) (fun key kl h => by obtain ⟨x, hx, _⟩ := Maps.keyOf_i64 Tryz.underlying3 h; exact ⟨x, hx⟩) (fun v y _ => ⟨v, rfl⟩) mb2 w5.heap.size n2 D left cnt rfl hrg ?_ ?_)
            | go_in)
          · intro hc0 hl0
            obtain ⟨x0, x1, x2, x3, f1, f2, f3, lx⟩ := HSr.out
            rcases hst with ⟨rfl, hv⟩ | ⟨rfl, hv⟩
            · have HST := Lib.hid (standS_disp (m := m) HNW.out ((disp_texts (fun x hx => (HGM.out x hx).2.1)).2 hv))
              go_wp2_with (at_builtin; go_must (refine wpList_append_lies _ rfl _ _ 80 rfl w2.heap.size 84 i0 (.agg #[.string ⟨#[]⟩, .int .i64 0, .int .i64 0, .int .i64 0]) 4 40 Tryz.underlying80 hi hz0 hz1 hz2 rfl (by decide) (.slice A k c) k _ rfl (own_below HRW.out (Nat.le_refl _) (by repeat (first | exact Below.refl _ _ | exact (HBz).out | refine below_drewN ?_ _ | refine Below.drew ?_ | refine Below.setCell ?_ (by first | omega | (simp; done) | (simp; omega)) _ | refine Below.alloc ?_ (by first | omega | (simp; done) | (simp; omega)) _))) _ 1 1 [.string m, .int .i64 3, .int .i64 0, .int .i64 0] rfl rfl (World.news_of_block (heap_new_eq (by first | rfl | simp))) (std_one ⟨m, _, _, _⟩) (by decide) (by unfold maxLen; omega) (by omega) (by first | omega | (simp; done) | (simp; omega)) _ rfl ?_); intro g cap w9 hown9 hg9 hat9 hlt9)
              go_roundw
              case rel => exact ⟨k + 1, some ⟨g, 0, none⟩, cap, by omega, rfl, by go_num, by rw [HXX.out _ HST.out]; exact hown9, (HB.out.trans (Below.mono (by repeat (first | exact Below.refl _ _ | exact (HBz).out | refine below_drewN ?_ _ | refine Below.drew ?_ | refine Below.setCell ?_ (by first | omega | (simp; done) | (simp; omega)) _ | refine Below.alloc ?_ (by first | omega | (simp; done) | (simp; omega)) _)) hsz)).grown hg9 (by first | omega | (simp; done) | (simp; omega)) (fun g hg => (HLT.out g hg).1)⟩
              case measure => simp [Go.RowKit.intOf]; omega
            · have hd : disp G G.length = false := by
                cases hd : disp G G.length with
                | false => rfl
                | true =>
                  obtain ⟨v, h2⟩ := (disp_texts (fun x hx => (HGM.out x hx).2.1)).1 hd
                  have h3 := hv v h2
                  rw [hl0] at h3
                  cases h3
              have HST := Lib.hid (bvd_end (m := m) HNW.out hd)
              clear hd hv hl0
              go_wp2_with fail
              go_loopw [60] (fun i wz => LbRel wr xb m G i wz) (fun i _ => G.length - (Go.RowKit.intOf i).toNat)
              case atStart => exact ⟨0, Nat.zero_le _, rfl, HSr.out, Kp.refl _ _⟩
              case round =>
                obtain ⟨j, hj, rfl, hS3, hKp3⟩ := hrel
                have HS3 := Lib.hid hS3
                have HK3 := Lib.hid hKp3
                have HB3 := Lib.hid (HBz.out.trans (hKp3.below (by omega) (fun i hi => by omega)))
                have z3 := hKp3.size
                clear hS3 hKp3 x0 x1 x2 x3 f1 f2 f3
                obtain ⟨x0, x1, x2, x3, f1, f2, f3, lx3⟩ := HS3.out
                by_cases hjl : j < G.length
                · obtain ⟨gb, go, rfl, hgb, y0, y1, y2, y3, y4, y5, y6, y7, y8, y9⟩ := (HP.out.below HB3.out).it_at hjl
                  have m0 : (0 : Int) ≤ (j : Int) := by omega
                  have m1 : (j : Int) < (G.length : Int) := by omega
                  have hgb2 : gb < wr.heap.size := by omega
                  have HGx := Lib.hid (HGM.out G[j] (List.getElem_mem hjl))
                  cases ht : decide ((bvd G j).1 < G[j].n.a.ver) with
                  | true =>
                    have ht' := of_decide_eq_true ht
                    have HBV := Lib.hid (bvd_yes hjl ht')
                    obtain ⟨x, hx⟩ : ∃ x, x = G[j] := ⟨_, rfl⟩
                    rw [← hx] at y0 y1 y2 y3 y4 y5 y6 y7 y8 y9 HGx ht' HBV
                    have HAx := Lib.hid (HGx.out.1.al.below (Below.trans HB3.out (Below.refl _ _)))
                    have HTx := Lib.hid (HTr.out.below HB3.out)
                    obtain ⟨dg, hdg⟩ : ∃ dg, digA x.n.a = dg := ⟨_, rfl⟩
                    have HDG := Lib.hid hdg
                    have lx4 : xb < wr.heap.size + 1 := by omega
                    clear ht hx hdg
                    go_wp2_with fail
                    go_region_with (go_at_call 50; refine (digest_is x.n.a x.A x.c dg _ HDG.out HGx.out.2.1 (HAx.out.below (by (repeat (first | exact Below.refl _ _ | assumption | refine below_drewN ?_ _ | refine Below.drew ?_ | refine Below.setCell ?_ (by first | omega | (simp; done) | (simp; omega)) _ | refine Below.alloc ?_ (by first | omega | (simp; done) | (simp; omega)) _)))) (HTx.out.below (by (repeat (first | exact Below.refl _ _ | assumption | refine below_drewN ?_ _ | refine Below.drew ?_ | refine Below.setCell ?_ (by first | omega | (simp; done) | (simp; omega)) _ | refine Below.alloc ?_ (by first | omega | (simp; done) | (simp; omega)) _))))).mono ?_; rintro e w8 ⟨rfl, hb8⟩; obtain ⟨hcw8, hfw8⟩ := bcell hb8; have z8 := hb8.size; (try simp at z8); have HB8 := Lib.hid ((show Below xb wr _ from by (repeat (first | exact Below.refl _ _ | assumption | refine below_drewN ?_ _ | refine Below.drew ?_ | refine Below.setCell ?_ (by first | omega | (simp; done) | (simp; omega)) _ | refine Below.alloc ?_ (by first | omega | (simp; done) | (simp; omega)) _))).trans (hb8.mono (by first | omega | (simp; done) | (simp; omega)))); have HK8 : Hid (Below _ _ w8) := hb8; clear hb8)
                    all_goals
                      go_wp2_with fail
                      go_roundw
                      case rel =>
                        refine ⟨j + 1, by omega, by go_num, ?_, (by repeat (first | exact HK3.out | refine Kp.setCell (F := fun i => i = xb) ?_ (.inl rfl) _ | refine Kp.then_below ?_ HK8.out | refine Kp.alloc ?_ _ | refine Kp.drew ?_))⟩
                        rw [HBV.out]
                        refine ⟨?_, ?_, ?_, ?_, ?_, ?_, ?_, ?_⟩ <;> simp [go_sem, hcw8, hfw8, x0, x1, x2, x3, f1, f2, f3, lx3, lx4] <;> first | omega | exact HDG.out.symm
                      case measure => simp [Go.RowKit.intOf]; omega
                  | false =>
                    have ht' := of_decide_eq_false ht
                    have HBV := Lib.hid (bvd_no hjl (okA_ver HGx.out.2.1).1 ht')
                    obtain ⟨x, hx⟩ : ∃ x, x = G[j] := ⟨_, rfl⟩
                    rw [← hx] at y0 y1 y2 y3 y4 y5 y6 y7 y8 y9 ht'
                    have ht2 : x.n.a.ver ≤ (bvd G j).1 := by omega
                    clear ht hx HGx
                    go_wp2_with fail
                    go_roundw
                    case rel => exact ⟨j + 1, by omega, by go_num, by rw [HBV.out]; exact HS3.out.below ((Below.refl _ _).alloc (Nat.le_refl _) _) (Nat.le_refl _), HK3.out.then_below ((Below.refl _ _).alloc (Nat.le_refl _) _)⟩
                    case measure => simp [Go.RowKit.intOf]; omega
                · obtain rfl : j = G.length := by omega
                  go_wp2_with (at_builtin; go_must (refine wpList_append_lies _ rfl _ _ 80 rfl w2.heap.size 84 i0 (.agg #[.string ⟨#[]⟩, .int .i64 0, .int .i64 0, .int .i64 0]) 4 40 Tryz.underlying80 hi hz0 hz1 hz2 rfl (by decide) (.slice A k c) k _ rfl (own_below HRW.out (Nat.le_refl _) (by repeat (first | exact Below.refl _ _ | exact (HB3).out | refine below_drewN ?_ _ | refine Below.drew ?_ | refine Below.setCell ?_ (by first | omega | (simp; done) | (simp; omega)) _ | refine Below.alloc ?_ (by first | omega | (simp; done) | (simp; omega)) _))) _ 1 1 [.string m, .int .i64 1, .int .i64 (bvd G G.length).1, .int .i64 (bvd G G.length).2] rfl rfl (World.news_of_block (heap_new_eq (by first | rfl | simp))) (std_one ⟨m, _, _, _⟩) (by decide) (by unfold maxLen; omega) (by omega) (by first | omega | (simp; done) | (simp; omega)) _ rfl ?_); intro g cap w9 hown9 hg9 hat9 hlt9)
                  go_roundw
                  case rel => exact ⟨k + 1, some ⟨g, 0, none⟩, cap, by omega, rfl, by go_num, by rw [HXX.out _ HST.out]; exact hown9, (HB.out.trans (Below.mono (by repeat (first | exact Below.refl _ _ | exact (HB3).out | refine below_drewN ?_ _ | refine Below.drew ?_ | refine Below.setCell ?_ (by first | omega | (simp; done) | (simp; omega)) _ | refine Below.alloc ?_ (by first | omega | (simp; done) | (simp; omega)) _)) hsz)).grown hg9 (by first | omega | (simp; done) | (simp; omega)) (fun g hg => (HLT.out g hg).1)⟩
                  case measure => simp [Go.RowKit.intOf]; omega
          · intro x c kl y y2 w7 cnt7 hkey hlk hR hat hrg7 hlt7 hg7 hs7 hen
            obtain ⟨x', ex, rfl, hwf⟩ := Maps.keyOf_i64 Tryz.underlying3 hkey
            obtain rfl : x = x' := by injection ex
            obtain ⟨rfl, rfl⟩ : y = .held c ∧ y2 = [] := by
              have h1 := Option.some.inj hR
              injection h1 with e1 e2
              exact ⟨e1.symm, e2.symm⟩
            have hhas : Maps.has D (.int .i64 x) = true := by
              cases hh : Maps.has D (.int .i64 x) with
              | true => rfl
              | false =>
                have h1 := (hat (.held (.int .i64 0))).symm.trans (Maps.atKey_of_not_has hh _)
                have h2 := (hat (.held (.int .i64 1))).symm.trans (Maps.atKey_of_not_has hh _)
                have h3 := h1.symm.trans h2
                cases h3
            obtain ⟨u, hu⟩ := Option.isSome_iff_exists.1 (by rw [← (HSZ.out x).1]; exact hhas)
            have hcu : c = u := by
              have h1 := (hat (.held (.int .i64 0))).symm.trans ((HSZ.out x).2 u hu _)
              injection h1
            obtain ⟨b, hub, _, hb2, hb3⟩ := HV.out.inn x u hu
            subst hcu hub
            have hbl := hb3.lt
            have K7 : Kp (fun i => i = w5.heap.size) wr w7 := (Kp.refl _ _).grown hg7 (fun k hk => .inl (by cases hk; rfl))
            have hb7 : MapS w7 b n2 (textsV G x).length (g2 x) := ((hb3.keep HK56.out (fun e => e)).keep HKp.out (by omega)).keep K7 (by omega)
            have HS7 := Lib.hid (HSr.out.keep K7 (by omega))
            have HK7 := Lib.hid (HKp.out.trans K7 (fun i _ hi => .inr hi))
            obtain ⟨D2, hD2o, hD2s, _⟩ := hb7
            obtain ⟨x0, x1, x2, x3, f1, f2, f3, lx⟩ := HS7.out
            clear hb3 K7 hR hat hu hhas hkey ex
            cases hb : decide ((1 : Int) < (Maps.size D2 : Int)) with
            | true =>
              have hb' := of_decide_eq_true hb
              have HTT := Lib.hid (show ∃ v, 2 ≤ (textsV G v).length from ⟨x, by omega⟩)
              clear hb
              go_wp2_with (first
                | (at_len; refine wpList_len_own _ rfl _ 147 rfl 9 32 Tryz.underlying147 MapR b n2 D2 rfl hD2o ?_)
                | go_in)
              go_roundw
              case rel => exact ⟨_, cnt7, 3, hrg7.kept (grown_set _ _ _) (fun e => by have := Option.some.inj e; simp at this; omega) (fun e => by have := Option.some.inj e; simp at this; omega), HS7.out.set1 3, .inl ⟨rfl, HTT.out⟩, HK7.out.setCell (.inl (.inl rfl)) _⟩
              case measure => rw [(hrg7.kept (grown_set w7 ⟨xb, 1, none⟩ (.int .i64 3)) (fun e => by have := Option.some.inj e; simp at this; omega) (fun e => by have := Option.some.inj e; simp at this; omega)).left_eq, hrg.left_eq]; exact hlt7
            | false =>
              have hb' := of_decide_eq_false hb
              have HNT : Hid ((st = 3 ∧ ∃ v, 2 ≤ (textsV G v).length) ∨ (st = 1 ∧ ∀ v, 2 ≤ (textsV G v).length → (left (.int .i64 v) && !(Lit.int .i64 v).sameKey (.int .i64 x)) = true)) := by
                rcases hst with h | ⟨h1, h2⟩
                · exact .inl h
                · refine .inr ⟨h1, fun v hv => ?_⟩
                  have hne : v ≠ x := fun e => by subst e; omega
                  rw [h2 v hv]
                  simp [Lit.sameKey, hne]
              go_wp2_with (first
                | (at_len; refine wpList_len_own _ rfl _ 147 rfl 9 32 Tryz.underlying147 MapR b n2 D2 rfl hD2o ?_)
                | go_in)
              go_roundw
              case rel => exact ⟨_, cnt7, st, hrg7, HS7.out, HNT.out, HK7.out⟩
              case measure => rw [hrg7.left_eq, hrg.left_eq]; exact hlt7
    · obtain rfl : k = E.length := by omega
      go_wp2_with fail
      go_ret2
      have h9 := HRW.out
      rw [List.take_length] at h9
      refine ⟨A, c, by rw [List.length_map]; rfl, ?_, Hw1.out.trans ((Hk.out.trans (HB.out.mono (by omega))).mono (by omega))⟩
      rw [List.length_map]
      exact own_more h9 (by omega)
theorem settle_ (ks : List (Int × Int)) (q : Int) (K : Option Addr) (kc : Nat) (L : List It) (N : Option Addr) (nc : Nat) (l : List Std) (k : Int) (w : World) (hv : settleR ks q L = (l, k)) (hr : Rin w ks K kc) (ht : Rdy w) (hL : Sl w w.heap.size 10 N L.length nc (itCells L)) (hI : ∀ x ∈ L, NIn w x.n x.A x.c x.S x.sc) (hlen : L.length ≤ 1152921504606846976) :
    Calls Tryz.prog 25 #[rollV ks K kc q, .slice N L.length nc] w (OwnSt l k w) := by
  unfold settleR at hv
  by_cases hm : manyE ks q L.length = 0
  · rw [if_pos hm] at hv
    obtain ⟨rfl, rfl⟩ := Prod.mk.inj hv
    exact settle_t ks q K kc L N nc w hm hr ht hL hI
  · rw [if_neg hm] at hv
    obtain ⟨rfl, rfl⟩ := Prod.mk.inj hv
    exact settle_e ks q K kc L N nc _ w rfl hm hr hlen
end Go.Proofs.YtmpbhngjkbidcaaGreatDoor
