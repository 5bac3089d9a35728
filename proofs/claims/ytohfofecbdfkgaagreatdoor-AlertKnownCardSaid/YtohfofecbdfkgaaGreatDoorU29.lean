/-
  Rows of forks in memory; the walk of Forks, of the specification.
-/
import Derived.Test.YtohfofecbdfkgaaGreatDoorU28
import Derived.Test.YtohfofecbdfkgaaGreatDoorU21
import Derived.Deep.RegionLaw
import Derived.Test.YtohfofecbdfkgaaGreatDoorU27
namespace Go.Proofs.YtohfofecbdfkgaaGreatDoor
open Go.RowKit Al
attribute [local go_sem ↓] Go.wp_at_zero Go.wp_at_succ

/-- A fork in memory: where its signers lie. -/
structure FkC where
  f : Frk
  A : Option Addr
  c : Nat
def FkC.lst (x : FkC) : List Value := [.string x.f.ev, .int .i64 x.f.ver, .slice x.A x.f.who.length x.c]
def fkCells (G : List FkC) : List Value := G.flatMap FkC.lst
theorem FkC.len (x : FkC) : x.lst.length = 3 := rfl
theorem fkCells_snoc (G : List FkC) (x : FkC) : fkCells (G ++ [x]) = fkCells G ++ x.lst := by simp [fkCells]
theorem fkc_one (x : FkC) : ∀ u ∈ x.lst, u.oneCell' = true := by
  intro u hu
  simp [FkC.lst] at hu
  rcases hu with rfl | rfl | rfl <;> rfl
theorem infoFk : (Tryz.prog.info? 73).map (fun i => (i.zero, i.size, i.bytes)) = some (some (.agg #[.string ⟨#[]⟩, .int .i64 0, .slice none 0 0]), 3, 48) := by kernel_rfl
/-- Forks in memory of the call's own, with an error. -/
def OwnFk (l : List Frk) (k : Int) (w : World) (e : Ending) (w' : World) : Prop :=
  ∃ (G : List FkC) (A : Option Addr) (c : Nat), G.map (·.f) = l ∧ e = .returned (.tuple #[.slice A G.length c, .int .i64 k]) ∧ w'.ownsRow w.heap.size 73 3 (.slice A G.length c) G.length (fkCells G) ∧ (∀ x ∈ G, Sl w' w'.heap.size 1 x.A x.f.who.length x.c (ints x.f.who)) ∧ Below w.heap.size w w'
/-- A row of forks that grows: the signers of none lie in its own block. -/
structure FkRow (w : World) (B : Nat) (l : List Frk) (G : List FkC) (A : Option Addr) (c : Nat) : Prop where
  eq : G.map (·.f) = l
  own : w.ownsRow B 73 3 (.slice A G.length c) G.length (fkCells G)
  its : ∀ x ∈ G, SlR w (fun i => (Value.slice A G.length c).ownBlock ≠ some i) 1 x.A x.f.who.length x.c (ints x.f.who)
theorem FkRow.nil (w : World) (B : Nat) : FkRow w B [] [] none 0 := ⟨rfl, World.ownsRow_nil _ _ _ _, fun _ h => (nomatch h)⟩
theorem FkRow.below {w w' : World} {B : Nat} {l : List Frk} {G : List FkC} {A : Option Addr} {c : Nat} (h : FkRow w B l G A c) (hb : Below w.heap.size w w') : FkRow w' B l G A c :=
  ⟨h.eq, own_below h.own (Nat.le_refl _) hb, fun x hx => (h.its x hx).keep (F := fun _ => False) (Kp.of_below hb) (fun _ _ e => e)⟩
/-- One more fork. -/
theorem FkRow.step {w w4 w5 : World} {B : Nat} {l : List Frk} {G : List FkC} {A : Option Addr} {c g cap : Nat} {x : FkC} (h : FkRow w B l G A c) (h4 : Below w.heap.size w w4) (hx : SlR w4 (fun i => w.heap.size ≤ i) 1 x.A x.f.who.length x.c (ints x.f.who))
    (hown : w5.ownsRow B 73 3 (.slice (some ⟨g, 0, none⟩) (G.length + 1) cap) (G.length + 1) (fkCells G ++ x.lst)) (hg : w4.grownBy w5 (Value.slice A G.length c).ownBlock) (hat : (Value.slice A G.length c).ownBlock = some g ∨ g = w4.heap.size) :
    FkRow w5 B (l ++ [x.f]) (G ++ [x]) (some ⟨g, 0, none⟩) cap := by
  have K5 : Kp (fun i => (Value.slice A G.length c).ownBlock = some i) w4 w5 := (Kp.refl _ _).grown hg (fun k hk => .inl hk)
  have hlt : ∀ i, (Value.slice A G.length c).ownBlock = some i → i < w.heap.size := fun i hi => (own_lt h.own hi).2
  refine ⟨by rw [List.map_append, h.eq]; rfl, by rw [List.length_append, fkCells_snoc]; exact hown, fun y hy => ?_⟩
  have hown2 : (Value.slice (some ⟨g, 0, none⟩) (G ++ [x]).length cap).ownBlock = some g := rfl
  rcases List.mem_append.1 hy with hy | hy
  · have h1 := ((h.its y hy).keep (F := fun _ => False) (Kp.of_below h4) (fun _ _ e => e)).keep K5 (fun i hi e => hi e)
    refine ⟨h1.sl, fun hn a ha => ?_⟩
    rw [hown2]
    intro e
    have e := Option.some.inj e
    have hne : (Value.slice A G.length c).ownBlock ≠ some a.block := (h.its y hy).at_ hn a ha
    rcases hat with h2 | h2
    · exact hne (by rw [h2, e])
    · obtain ⟨b, off, e3, hb, _⟩ := (h.its y hy).sl.at_ hn
      rw [e3] at ha
      cases ha
      have := h4.size
      simp at e
      omega
  · rw [List.mem_singleton.1 hy]
    have h1 := hx.keep K5 (fun i hi e => by have := hlt i e; omega)
    refine ⟨h1.sl, fun hn a ha => ?_⟩
    rw [hown2]
    intro e
    have e := Option.some.inj e
    have hge : w.heap.size ≤ a.block := hx.at_ hn a ha
    rcases hat with h2 | h2
    · have := hlt g h2
      omega
    · obtain ⟨b, off, e3, hb, _⟩ := hx.sl.at_ hn
      rw [e3] at ha
      cases ha
      simp at e
      omega
set_option maxRecDepth 100000 in
set_option maxHeartbeats 2000000 in
theorem rForks_e (ks : List (Int × Int)) (q : Int) (K : Option Addr) (kc : Nat) (L : List It) (N : Option Addr) (nc : Nat) (v : Int) (w : World) (hv : manyE ks q L.length = v) (hv0 : (v == 0) = false) (hr : Rin w ks K kc) (hlen : L.length ≤ 1152921504606846976) :
    Calls Tryz.prog 26 #[rollV ks K kc q, .slice N L.length nc] w (OwnFk [] v w) := by
  have HR := Lib.hid hr
  have HV := Lib.hid hv
  have hv1 : (v != 0) = true := by rw [bne, hv0]; rfl
  clear hr hv
  go_enter Tryz.func26, Tryz.ntmps26
  go_wp2_with fail
  refine (many_is ks q K kc N L.length nc v _ HV.out (HR.out.below (by (repeat (first | exact Below.refl _ _ | assumption | refine below_drewN ?_ _ | refine Below.drew ?_ | refine Below.setCell ?_ (by first | omega | (simp; done) | (simp; omega)) _ | refine Below.alloc ?_ (by first | omega | (simp; done) | (simp; omega)) _)))) hlen).mono ?_
  rintro e w1 ⟨rfl, hb⟩
  obtain ⟨hcw1, hfw1⟩ := bcell hb
  have Hw1 := Lib.hid ((show Below w.heap.size w _ from (by repeat (first | exact Below.refl _ _ | assumption | refine below_drewN ?_ _ | refine Below.drew ?_ | refine Below.setCell ?_ (by first | omega | (simp; done) | (simp; omega)) _ | refine Below.alloc ?_ (by first | omega | (simp; done) | (simp; omega)) _))).trans (hb.mono (by first | omega | (simp; done) | (simp; omega))))
  have hzw1 := hb.size
  try simp at hzw1
  clear hb
  go_wp2_with fail
  go_ret2
  exact ⟨[], none, 0, rfl, rfl, World.ownsRow_nil _ _ _ _, fun _ h => (nomatch h), Hw1.out⟩
def RfRel (w3 : World) (E : List ByteArray) (g : ByteArray → List Frk) (o i : Value) (wr : World) : Prop :=
  ∃ (k : Nat) (G : List FkC) (A : Option Addr) (c : Nat), k ≤ E.length ∧ G.length ≤ 1000 * k ∧ o = .slice A G.length c ∧ i = .int .i64 k ∧ FkRow wr w3.heap.size ((E.take k).flatMap g) G A c ∧ Below w3.heap.size w3 wr
def RgRel (w3 wo : World) (n0 : Nat) (l : List Frk) (g : Int → List Frk) (ow : Option Nat) (o i : Value) (wr : World) : Prop :=
  ∃ (j : Nat) (G : List FkC) (A : Option Addr) (c : Nat), j ≤ 1000 ∧ G.length ≤ n0 + j ∧ o = .slice A G.length c ∧ i = .int .i64 ((j : Int) + 1) ∧ FkRow wr w3.heap.size (l ++ (versTo j).flatMap g) G A c ∧ Kp (fun i => ow = some i) wo wr ∧ ∀ i, (Value.slice A G.length c).ownBlock = some i → ow = some i ∨ wo.heap.size ≤ i
theorem Kp.alloq {F : Nat → Prop} {a b : World} (h : Kp F a b) (o : Obj) : Kp F a (b.alloc o) := h.then_below ((Below.refl _ b).alloc (Nat.le_refl _) o)
theorem heap_new_q {w : World} {o : Obj} {B : Nat} (h : w.heap.size = B) : (w.alloc o).heap[B]? = some o := h ▸ heap_alloc_new w o
theorem forkAt_none {nk : Nat} {L : List It} {m : ByteArray} {v : Int} (h : L.any (fun x => x.n.a.ver == v) = false) : forkAt nk L m v = [] := by
  unfold forkAt
  rw [if_neg]
  intro hp
  obtain ⟨x, hx, y, hy, e⟩ := (pairAny_mem (splitV_comm v) (splitV_self v)).1 hp
  have : L.any (fun x => x.n.a.ver == v) = true := List.any_eq_true.2 ⟨x, hx, by unfold splitV at e; simp only [Bool.and_eq_true] at e; exact e.1.1⟩
  rw [this] at h
  cases h
theorem forkAt_len (nk : Nat) (L : List It) (m : ByteArray) (v : Int) : (forkAt nk L m v).length ≤ 1 := by
  unfold forkAt
  split <;> simp
theorem rollOk_some {ks : List (Int × Int)} {q : Int} (h : rollOk ks q = true) : 0 < ks.length := by
  unfold rollOk at h
  rw [Bool.and_eq_true, Bool.and_eq_true] at h
  have := inB_true.1 h.2.1
  omega
set_option maxRecDepth 100000 in
set_option maxHeartbeats 8000000 in
theorem rForks_t (ks : List (Int × Int)) (q : Int) (K : Option Addr) (kc : Nat) (L : List It) (N : Option Addr) (nc : Nat) (w : World) (hr : Rin w ks K kc) (ho : rollOk ks q = true) (hl64 : L.length ≤ 64) (hL : Sl w w.heap.size 10 N L.length nc (itCells L)) (hI : ∀ x ∈ L, NIn w x.n x.A x.c x.S x.sc) :
    Calls Tryz.prog 26 #[rollV ks K kc q, .slice N L.length nc] w (OwnFk (forksS ks q L) 0 w) := by
  obtain ⟨i0, hi, hz0, hz1, hz2⟩ := info_parts infoFk
  have hm : manyE ks q L.length = 0 := by unfold manyE; rw [if_pos ho, if_neg (by omega)]
  obtain ⟨F, hF⟩ : ∃ F, validN ks q L = F := ⟨_, rfl⟩
  obtain ⟨E, hE⟩ : ∃ E, evW F = E := ⟨_, rfl⟩
  have hFm : ∀ x ∈ F, x ∈ L ∧ okA x.n.a = true := fun x hx => by
    rw [← hF] at hx
    obtain ⟨h1, h2⟩ := List.mem_filter.1 hx
    exact ⟨h1, (noticeE_zero (by simpa using h2)).1⟩
  have hFl : F.length ≤ 64 := by rw [← hF]; exact Nat.le_trans (List.length_filter_le _ _) hl64
  have hEl : E.length ≤ 64 := by rw [← hE]; exact Nat.le_trans (evW_len F) hFl
  have hRS : forksS ks q L = E.flatMap fun m => forksE ks.length (F.filter (ofEv m)) m := by unfold forksS; rw [hF, hE]
  have hk0 := rollOk_some ho
  have hk8 := rollOk_len ho
  have HR := Lib.hid hr
  have HO := Lib.hid ho
  have HL := Lib.hid hL
  have HI := Lib.hid hI
  have HM := Lib.hid hm
  have HF := Lib.hid hF
  have HE := Lib.hid hE
  have HFM := Lib.hid hFm
  rw [hRS]
  clear hr ho hL hI hm hF hE hFm hRS
  go_enter Tryz.func26, Tryz.ntmps26
  go_wp2_with fail
  refine (many_is ks q K kc N L.length nc 0 _ HM.out (HR.out.below (by (repeat (first | exact Below.refl _ _ | assumption | refine below_drewN ?_ _ | refine Below.drew ?_ | refine Below.setCell ?_ (by first | omega | (simp; done) | (simp; omega)) _ | refine Below.alloc ?_ (by first | omega | (simp; done) | (simp; omega)) _)))) (by omega)).mono ?_
  rintro e w1 ⟨rfl, hb⟩
  obtain ⟨hcw1, hfw1⟩ := bcell hb
  have Hx1 : Hid (Below (w.heap.size + 1) (w.alloc (.cells #[.slice K ks.length kc, .int .i64 q] 24)) w1) := hb.mono (by simp)
  have Hw1 : Hid (Below w.heap.size w w1) := (show Below w.heap.size w _ from by (repeat (first | exact Below.refl _ _ | assumption | refine below_drewN ?_ _ | refine Below.drew ?_ | refine Below.setCell ?_ (by first | omega | (simp; done) | (simp; omega)) _ | refine Below.alloc ?_ (by first | omega | (simp; done) | (simp; omega)) _))).trans (hb.mono (by simp))
  have lw1 := hb.size
  simp at lw1
  clear hb
  go_wp2_with fail
  refine (counting_is ks q K kc L N nc F _ HF.out (HR.out.below Hw1.out) HO.out ((HL.out.below Hw1.out).more Hw1.out.size) (fun x hx => (HI.out x hx).below Hw1.out) (by omega)).mono ?_
  rintro e w2 ⟨P, fc, rfl, hrow2, hb⟩
  have Hw2 : Hid (Below w.heap.size w w2) := Hw1.out.trans (hb.mono Hw1.out.size)
  have Hx2 := Lib.hid (Hx1.out.trans (hb.mono lw1))
  have HP := Lib.hid (Sl.of_own hrow2)
  have lw2 := hb.size
  clear hb hrow2
  go_wp2_with fail
  refine (events_ F P fc E _ HE.out HP.out (by omega)).mono ?_
  rintro e w3 ⟨Q, qc, rfl, hrow3, hb⟩
  have Hw3 : Hid (Below w.heap.size w w3) := Hw2.out.trans (hb.mono Hw2.out.size)
  have Hx3 := Lib.hid (Hx2.out.trans (hb.mono (by omega)))
  have HP3 := Lib.hid ((HP.out.below hb).more hb.size)
  have HQ := Lib.hid (Sl.of_own hrow3)
  have lw3 : w.heap.size + 1 ≤ w3.heap.size := by have := Hx3.out.size; simp at this; exact this
  have k0 : w3.cell? ⟨w.heap.size, 0, none⟩ = some (.slice K ks.length kc) := (Hx3.out.cell (p := ⟨w.heap.size, 0, none⟩) (Nat.lt_succ_self _)).trans (by simp [go_sem])
  have k1 : w3.cell? ⟨w.heap.size, 1, none⟩ = some (.int .i64 q) := (Hx3.out.cell (p := ⟨w.heap.size, 1, none⟩) (Nat.lt_succ_self _)).trans (by simp [go_sem])
  have HK01 := Lib.hid (And.intro k0 k1)
  clear hb hrow3 HP k0 k1 hcw1 hfw1
  go_wp2_with fail
  go_loopw [8, 9] (fun o i wr => RfRel w3 E (fun m => forksE ks.length (F.filter (ofEv m)) m) o i wr) (fun _ i _ => E.length - (Go.RowKit.intOf i).toNat)
  case atStart => exact ⟨0, [], none, 0, Nat.zero_le _, Nat.zero_le _, rfl, rfl, FkRow.nil _ _, Below.refl _ _⟩
  case round =>
    obtain ⟨k, G, A, c, hk, hGl, rfl, rfl, hrow, hB⟩ := hrel
    have hsz := hB.size
    have HB := Lib.hid hB
    have HRW := Lib.hid hrow
    clear hB hrow
    by_cases hlt : k < E.length
    · obtain ⟨eb, eo, rfl, heb, z0⟩ := (HQ.out.below HB.out).str_at hlt
      have j0 : (0 : Int) ≤ (k : Int) := by omega
      have j1 : (k : Int) < (E.length : Int) := by omega
      have heb2 : eb < wr.heap.size := by omega
      have HX : Hid (∀ l, (versTo 1000).flatMap (forkAt ks.length (F.filter (ofEv E[k])) E[k]) = l → (E.take (k + 1)).flatMap (fun m => forksE ks.length (F.filter (ofEv m)) m) = (E.take k).flatMap (fun m => forksE ks.length (F.filter (ofEv m)) m) ++ l) := by
        intro l hl
        rw [List.take_succ_eq_append_getElem hlt, List.flatMap_append, ← hl]
        simp [forksE]
      obtain ⟨m, hmm⟩ : ∃ m, m = E[k] := ⟨_, rfl⟩
      rw [← hmm] at z0 HX
      have HZ3 : Hid (w3.cell? ⟨eb, eo + k, none⟩ = some (.string m)) := (HB.out.cell (p := ⟨eb, eo + k, none⟩) heb).symm.trans z0
      clear hmm
      obtain ⟨S, hS⟩ : ∃ S, F.filter (ofEv m) = S := ⟨_, rfl⟩
      have hSl : S.length ≤ 64 := by rw [← hS]; exact Nat.le_trans (List.length_filter_le _ _) hFl
      have HSM : Hid (∀ x ∈ S, x ∈ F) := fun x hx => by rw [← hS] at hx; exact (List.mem_filter.1 hx).1
      have HS := Lib.hid hS
      rw [hS] at HX
      clear hS
      obtain ⟨l0, hl0⟩ : ∃ l0, (E.take k).flatMap (fun m => forksE ks.length (F.filter (ofEv m)) m) = l0 := ⟨_, rfl⟩
      rw [hl0] at HX HRW
      have HL0 := Lib.hid hl0
      clear hl0
      go_wp2_with (go_at_call 66; refine (of_ F P fc m S wr HS.out ((HP3.out.below HB.out).more hsz) (by omega)).mono ?_; rintro e wa ⟨Y, yc, rfl, howna, hba⟩; have HY : Hid (SlR wa (fun i => wr.heap.size ≤ i) 10 Y S.length yc (itCells S)) := SlR.of_own howna (fun i h1 _ => h1); have HBa := Lib.hid hba; have sa := hba.size; clear howna hba)
      have HRa := Lib.hid (HRW.out.below HBa.out)
      have hlt0 : ∀ i, (Value.slice A G.length c).ownBlock = some i → w3.heap.size ≤ i ∧ i < wr.heap.size := fun i hi => own_lt HRW.out.own hi
      have HLT := Lib.hid hlt0
      have HBk := Lib.hid (HB.out.trans (HBa.out.mono hsz))
      clear hlt0
      go_loopw [8, 11] (fun o i wz => RgRel w3 wa (1000 * k) l0 (forkAt ks.length S m) (Value.slice A G.length c).ownBlock o i wz) (fun _ i _ => 1001 - (Go.RowKit.intOf i).toNat)
      case atStart => exact ⟨0, G, A, c, Nat.zero_le _, by omega, rfl, rfl, by simpa [versTo] using HRa.out, Kp.refl _ _, fun i hi => .inl hi⟩
      case round =>
        obtain ⟨j, G', A', c', hj, hGl', rfl, rfl, hrow', hKp, hat⟩ := hrel
        have HRj := Lib.hid hrow'
        have HKj := Lib.hid hKp
        have HAT := Lib.hid hat
        have HBj := Lib.hid (HBk.out.trans (hKp.below (by omega) (fun i hi => (HLT.out i hi).1)))
        have zj := hKp.size
        have HYj := Lib.hid (HY.out.keep hKp (fun i hi e => by have := (HLT.out i e).2; omega)).sl
        have z1 : wr.cell? ⟨eb, eo + k, none⟩ = some (.string m) := (HBj.out.cell (p := ⟨eb, eo + k, none⟩) heb).trans HZ3.out
        clear hrow' hKp hat
        by_cases hjl : j < 1000
        · have hj1 : (j : Int) + 1 ≤ 1000 := by omega
          have HNX : Hid (∀ l, forkAt ks.length S m ((j : Int) + 1) = l → l0 ++ (versTo (j + 1)).flatMap (forkAt ks.length S m) = (l0 ++ (versTo j).flatMap (forkAt ks.length S m)) ++ l) := by
            intro l hl
            rw [versTo_next, List.flatMap_append, ← List.append_assoc, ← hl]
            simp
          cases hvb : S.any (fun x => x.n.a.ver == (j : Int) + 1) with
          | false =>
            have HVB := Lib.hid hvb
            have HNO := Lib.hid (HNX.out _ (forkAt_none hvb))
            clear hvb
            go_wp2_with (go_at_call 70; refine (versioned_ S Y yc ((j : Int) + 1) false wr HVB.out HYj.out).mono ?_; rintro e wb ⟨rfl, hbb⟩; have HBb := Lib.hid hbb; have sb := hbb.size; clear hbb)
            go_roundw
            case rel => exact ⟨j + 1, G', A', c', by omega, by omega, rfl, by go_num, by rw [HNO.out, List.append_nil]; exact HRj.out.below HBb.out, HKj.out.then_below HBb.out, HAT.out⟩
            case measure => simp [Go.RowKit.intOf]; omega
          | true =>
            have HVB := Lib.hid hvb
            obtain ⟨who, hwho⟩ : ∃ who, forkWho S ((j : Int) + 1) ks.length = who := ⟨_, rfl⟩
            have HWHO := Lib.hid hwho
            have hwl : who.length ≤ 8 := by rw [← hwho]; exact Nat.le_trans (forkWho_len _ _ _) hk8
            have c0 : wr.cell? ⟨w.heap.size, 0, none⟩ = some (.slice K ks.length kc) := (HBj.out.cell (p := ⟨w.heap.size, 0, none⟩) (by show w.heap.size < _; omega)).trans HK01.out.1
            have c1 : wr.cell? ⟨w.heap.size, 1, none⟩ = some (.int .i64 q) := (HBj.out.cell (p := ⟨w.heap.size, 1, none⟩) (by show w.heap.size < _; omega)).trans HK01.out.2
            have hSN : Hid (∀ W, Below wr.heap.size wr W → ∀ x ∈ S, NIn W x.n x.A x.c x.S x.sc) := fun W hW x hx => (HI.out x (HFM.out x (HSM.out x hx)).1).below ((Hw3.out.trans (HBj.out.mono Hw3.out.size)).trans (hW.mono (by omega)))
            have le1 : eb < wr.heap.size := by omega
            have le2 : w.heap.size < wr.heap.size := by omega
            clear hvb hwho
            cases his : pairAny (splitV ((j : Int) + 1)) S S.length with
            | false =>
              have HIS := Lib.hid his
              have HNO := Lib.hid (HNX.out [] (by unfold forkAt; rw [his]; rfl))
              clear his
              go_wp2_with (go_at_call 70; refine (versioned_ S Y yc ((j : Int) + 1) true wr HVB.out HYj.out).mono ?_; rintro e wb ⟨rfl, hbb⟩; have HBb := Lib.hid hbb; have sb := hbb.size; clear hbb)
              have c0b := (HBb.out.cell (p := ⟨w.heap.size, 0, none⟩) le2).trans c0
              have c1b := (HBb.out.cell (p := ⟨w.heap.size, 1, none⟩) le2).trans c1
              have z1b := (HBb.out.cell (p := ⟨eb, eo + k, none⟩) le1).trans z1
              have HYb := Lib.hid ((HYj.out.below HBb.out).more HBb.out.size)
              have HSb := Lib.hid (hSN.out wb HBb.out)
              have le1b : eb < wb.heap.size := by omega
              have le2b : w.heap.size < wb.heap.size := by omega
              clear c0 c1 z1
              go_region_with (go_at_call 71; refine (fork_ S Y yc ks q K kc m ((j : Int) + 1) who false _ HWHO.out HIS.out ((HYb.out.below (by (repeat (first | exact Below.refl _ _ | assumption | refine below_drewN ?_ _ | refine Below.drew ?_ | refine Below.setCell ?_ (by first | omega | (simp; done) | (simp; omega)) _ | refine Below.alloc ?_ (by first | omega | (simp; done) | (simp; omega)) _)))).more (by first | omega | (simp; done) | (simp; omega))) (fun x hx => (HSb.out x hx).below (by (repeat (first | exact Below.refl _ _ | assumption | refine below_drewN ?_ _ | refine Below.drew ?_ | refine Below.setCell ?_ (by first | omega | (simp; done) | (simp; omega)) _ | refine Below.alloc ?_ (by first | omega | (simp; done) | (simp; omega)) _)))) (by omega) hk0 hk8).mono ?_; rintro e wd ⟨A2, c2, rfl, hownd, hbd⟩; obtain ⟨hcwd, hfwd⟩ := bcell hbd; have sd := hbd.size; (try simp at sd); have HOd := Lib.hid (SlR.of_own hownd (R := fun i => _ ≤ i) (fun i h1 _ => h1)); have HBd := Lib.hid ((show Below wb.heap.size wb _ from by (repeat (first | exact Below.refl _ _ | assumption | refine below_drewN ?_ _ | refine Below.drew ?_ | refine Below.setCell ?_ (by first | omega | (simp; done) | (simp; omega)) _ | refine Below.alloc ?_ (by first | omega | (simp; done) | (simp; omega)) _))).trans (hbd.mono (by first | omega | (simp; done) | (simp; omega)))); clear hownd hbd)
              all_goals
                have HBW := Lib.hid (HBb.out.trans (HBd.out.mono sb))
                go_wp2_with fail
                go_roundw
                case rel => exact ⟨j + 1, G', A', c', by omega, by omega, rfl, by go_num, by rw [HNO.out, List.append_nil]; exact HRj.out.below (by repeat (first | exact Below.refl _ _ | exact HBW.out | refine Below.setCell ?_ (by first | omega | (simp; done) | (simp; omega)) _ | refine Below.alloc ?_ (by first | omega | (simp; done) | (simp; omega)) _)), HKj.out.then_below (by repeat (first | exact Below.refl _ _ | exact HBW.out | refine Below.setCell ?_ (by first | omega | (simp; done) | (simp; omega)) _ | refine Below.alloc ?_ (by first | omega | (simp; done) | (simp; omega)) _)), HAT.out⟩
                case measure => simp [Go.RowKit.intOf]; omega
            | true =>
              have HIS := Lib.hid his
              have HNO := Lib.hid (HNX.out [⟨m, (j : Int) + 1, who⟩] (by unfold forkAt; rw [his, if_pos rfl, HWHO.out]))
              clear his
              go_wp2_with (go_at_call 70; refine (versioned_ S Y yc ((j : Int) + 1) true wr HVB.out HYj.out).mono ?_; rintro e wb ⟨rfl, hbb⟩; have HBb := Lib.hid hbb; have sb := hbb.size; clear hbb)
              have c0b := (HBb.out.cell (p := ⟨w.heap.size, 0, none⟩) le2).trans c0
              have c1b := (HBb.out.cell (p := ⟨w.heap.size, 1, none⟩) le2).trans c1
              have z1b := (HBb.out.cell (p := ⟨eb, eo + k, none⟩) le1).trans z1
              have HYb := Lib.hid ((HYj.out.below HBb.out).more HBb.out.size)
              have HSb := Lib.hid (hSN.out wb HBb.out)
              have le1b : eb < wb.heap.size := by omega
              have le2b : w.heap.size < wb.heap.size := by omega
              clear c0 c1 z1
              go_region_with (go_at_call 71; refine (fork_ S Y yc ks q K kc m ((j : Int) + 1) who true _ HWHO.out HIS.out ((HYb.out.below (by (repeat (first | exact Below.refl _ _ | assumption | refine below_drewN ?_ _ | refine Below.drew ?_ | refine Below.setCell ?_ (by first | omega | (simp; done) | (simp; omega)) _ | refine Below.alloc ?_ (by first | omega | (simp; done) | (simp; omega)) _)))).more (by first | omega | (simp; done) | (simp; omega))) (fun x hx => (HSb.out x hx).below (by (repeat (first | exact Below.refl _ _ | assumption | refine below_drewN ?_ _ | refine Below.drew ?_ | refine Below.setCell ?_ (by first | omega | (simp; done) | (simp; omega)) _ | refine Below.alloc ?_ (by first | omega | (simp; done) | (simp; omega)) _)))) (by omega) hk0 hk8).mono ?_; rintro e wd ⟨A2, c2, rfl, hownd, hbd⟩; obtain ⟨hcwd, hfwd⟩ := bcell hbd; have sd := hbd.size; (try simp at sd); have HOd := Lib.hid (SlR.of_own hownd (R := fun i => _ ≤ i) (fun i h1 _ => h1)); have HBd := Lib.hid ((show Below wb.heap.size wb _ from by (repeat (first | exact Below.refl _ _ | assumption | refine below_drewN ?_ _ | refine Below.drew ?_ | refine Below.setCell ?_ (by first | omega | (simp; done) | (simp; omega)) _ | refine Below.alloc ?_ (by first | omega | (simp; done) | (simp; omega)) _))).trans (hbd.mono (by first | omega | (simp; done) | (simp; omega)))); clear hownd hbd)
              all_goals
                have HBW := Lib.hid (HBb.out.trans (HBd.out.mono sb))
                go_wp2_with (at_builtin; go_must (refine wpList_append_lies _ rfl _ _ 62 rfl w3.heap.size 73 i0 (.agg #[.string ⟨#[]⟩, .int .i64 0, .slice none 0 0]) 3 48 Tryz.underlying62 hi hz0 hz1 hz2 rfl (by decide) (.slice A' G'.length c') G'.length (fkCells G') rfl (own_below HRj.out.own (Nat.le_refl _) (by repeat (first | exact Below.refl _ _ | exact HBW.out | refine Below.setCell ?_ (by first | omega | (simp; done) | (simp; omega)) _ | refine Below.alloc ?_ (by first | omega | (simp; done) | (simp; omega)) _))) _ 1 1 [.string m, .int .i64 ((j : Int) + 1), .slice A2 who.length c2] rfl rfl (World.news_of_block (heap_new_q (by first | rfl | simp))) (fkc_one ⟨⟨m, (j : Int) + 1, who⟩, A2, c2⟩) (by decide) (by unfold maxLen; omega) (by omega) (by first | omega | (simp; done) | (simp; omega)) _ rfl ?_); intro g cap w9 hown9 hg9 hat9 hlt9; have HG9 := Lib.hid hg9; have HO9 := Lib.hid hown9; clear hg9 hown9)
                go_roundw
                case rel =>
                  refine ⟨j + 1, G' ++ [⟨⟨m, (j : Int) + 1, who⟩, A2, c2⟩], some ⟨g, 0, none⟩, cap, by omega, by simp; omega, by simp, by go_num, ?_, ?_, ?_⟩
                  · rw [HNO.out]
                    exact HRj.out.step (x := ⟨⟨m, (j : Int) + 1, who⟩, A2, c2⟩) (by repeat (first | exact Below.refl _ _ | exact HBW.out | refine Below.setCell ?_ (by first | omega | (simp; done) | (simp; omega)) _ | refine Below.alloc ?_ (by first | omega | (simp; done) | (simp; omega)) _)) (by first
                      | exact (HOd.out.keep (F := fun _ => False) (Kp.of_below ((Below.refl _ _).alloc (Nat.le_refl _) _ |>.alloc (by simp) _)) (fun _ _ e => e)).mono (fun i h => by simp at h; omega)
                      | exact (HOd.out.keep (F := fun i => i = wb.heap.size) (by repeat (first | exact Kp.refl _ _ | refine Kp.setCell (F := fun i => i = wb.heap.size) ?_ (.inl rfl) _ | refine Kp.alloq ?_ _)) (fun i h e => by subst e; simp at h <;> omega)).mono (fun i h => by simp at h; omega)) HO9.out HG9.out (hat9.elim .inl (fun h => .inr h))
                  · exact (HKj.out.then_below (show Below wr.heap.size wr _ from (by repeat (first | exact Below.refl _ _ | exact HBW.out | refine Below.setCell ?_ (by first | omega | (simp; done) | (simp; omega)) _ | refine Below.alloc ?_ (by first | omega | (simp; done) | (simp; omega)) _)))).grown HG9.out (fun i hi => HAT.out i hi)
                  · intro i hi
                    cases hi
                    rcases hat9 with h1 | h1
                    · exact HAT.out g h1
                    · right
                      rw [h1]
                      simp
                      omega
                case measure => simp [Go.RowKit.intOf]; omega
        · obtain rfl : j = 1000 := by omega
          go_wp2_with fail
          go_roundw
          case rel => exact ⟨k + 1, G', A', c', by omega, by omega, rfl, by go_num, by rw [HX.out _ rfl]; exact HRj.out, HBj.out⟩
          case measure => simp [Go.RowKit.intOf]; omega
    · obtain rfl : k = E.length := by omega
      have h9 := HRW.out
      rw [List.take_length] at h9
      have HR9 := Lib.hid h9
      clear h9
      go_wp2_with fail
      go_ret2
      exact ⟨G, A, c, HR9.out.eq, rfl, own_more HR9.out.own (by omega), fun x hx => (HR9.out.its x hx).sl, Hw3.out.trans (HB.out.mono Hw3.out.size)⟩
/-- All forks, or the error. -/
def forksR (ks : List (Int × Int)) (q : Int) (L : List It) : List Frk × Int := if manyE ks q L.length = 0 then (forksS ks q L, 0) else ([], manyE ks q L.length)
theorem rForks_ (ks : List (Int × Int)) (q : Int) (K : Option Addr) (kc : Nat) (L : List It) (N : Option Addr) (nc : Nat) (l : List Frk) (k : Int) (w : World) (hv : forksR ks q L = (l, k)) (hr : Rin w ks K kc) (hL : Sl w w.heap.size 10 N L.length nc (itCells L)) (hI : ∀ x ∈ L, NIn w x.n x.A x.c x.S x.sc) (hlen : L.length ≤ 1152921504606846976) :
    Calls Tryz.prog 26 #[rollV ks K kc q, .slice N L.length nc] w (OwnFk l k w) := by
  unfold forksR at hv
  by_cases hm : manyE ks q L.length = 0
  · rw [if_pos hm] at hv
    obtain ⟨h1, h2⟩ := manyE_zero hm
    obtain ⟨rfl, rfl⟩ := Prod.mk.inj hv
    exact rForks_t ks q K kc L N nc w hr h1 h2 hL hI
  · rw [if_neg hm] at hv
    obtain ⟨rfl, rfl⟩ := Prod.mk.inj hv
    exact rForks_e ks q K kc L N nc _ w rfl (by simpa using hm) hr hlen
end Go.Proofs.YtohfofecbdfkgaaGreatDoor

/-
  The keys of the map of versions, sorted; how what has come is counted.
-/
namespace Go.Proofs.YtohfofecbdfkgaaGreatDoor
open Go.RowKit Al

/-- The versions that a map has. -/
def versF (f : Int → Option Value) : List Int := (versTo 1000).filter fun v => (f v).isSome
theorem versF_len (f : Int → Option Value) : (versF f).length ≤ 1000 := Nat.le_trans (List.length_filter_le _ _) (by simp [versTo])
theorem versF_flat {f : Int → Option Value} {g : Int → List Frk} (h : ∀ v, f v = none → g v = []) : (versF f).flatMap g = (versTo 1000).flatMap g := by
  unfold versF
  generalize versTo 1000 = l
  induction l with
  | nil => rfl
  | cons v l ih =>
    rw [List.filter_cons, List.flatMap_cons]
    cases hv : (f v).isSome with
    | true => rw [if_pos rfl, List.flatMap_cons, ih]
    | false =>
      rw [if_neg (by simp), ih, h v (by cases hf : f v with
        | none => rfl
        | some u => rw [hf] at hv; cases hv)]
      rfl
theorem Ver.keys {w : World} {B mb n : Nat} {L : List It} {f : Int → Option Value} {g : Int → List UInt8 → Option Value} {tg : Tags} (h : Ver w B mb n L f g tg) {v : Int} : v ∈ versF f ↔ (f v).isSome = true := by
  unfold versF
  rw [List.mem_filter, mem_versTo]
  refine ⟨fun h => h.2, fun hs => ⟨?_, hs⟩⟩
  obtain ⟨u, hu⟩ := Option.isSome_iff_exists.1 hs
  have := h.rng v u hu
  omega
/-- The versions of the map, sorted, in memory of the call's own. -/
theorem vkeys_ (B mb n : Nat) (L : List It) (f : Int → Option Value) (g : Int → List UInt8 → Option Value) (tg : Tags) (w : World) (h : Ver w B mb n L f g tg) (hn : n ≤ 1048576) :
    Calls Tryz.prog 67 #[.func (.func 105) #[] #[.pointer (some ⟨w.heap.size, 0, none⟩)]] (w.alloc (.cells #[.map (some mb)] 90))
      fun e w' => ∃ A c, e = .returned (.slice A (versF f).length c) ∧ w'.ownsRow (w.heap.size + 1) 3 1 (.slice A (versF f).length c) (versF f).length (ints (versF f)) ∧ Below (w.heap.size + 1) (w.alloc (.cells #[.map (some mb)] 90)) w' := by
  obtain ⟨c0, D, h1, h2, h3⟩ := h.map
  have hsz := h1.size_le
  refine (Tryz.sortedKeys_int mb _ D MapR w h1 (by unfold maxLen; omega) (by omega)).mono ?_
  rintro e w' ⟨v, ss, rfl, hp, hrow, _, hb⟩
  have hs := keys_sorted_i h1 (ss0 := versF f) ((versTo_sorted 1000).filter _) (fun s => by rw [(h3 s).1, h.keys]) hp
  rw [hs] at hrow
  have hl : ss.length = (versF f).length := by
    have := congrArg List.length hs
    rwa [List.length_mergeSort] at this
  rw [hl] at hrow
  obtain ⟨A, c, rfl⟩ := own_form hrow
  rw [show (w.alloc (.cells #[.map (some mb)] 90)).heap.size = w.heap.size + 1 by simp] at hrow hb
  exact ⟨A, c, rfl, hrow, hb⟩
/-- How many of those that have come are so: one more has come. -/
theorem came_step {p : List UInt8 → Bool} {left : Lit → Bool} {t : List UInt8} (hl : left (.string t) = true) : ∀ {l : List (List UInt8)}, l.Nodup → t ∈ l →
    (l.filter fun z => !(left (.string z) && !(Lit.string z).sameKey (.string t)) && p z).length = (l.filter fun z => !left (.string z) && p z).length + (if p t then 1 else 0)
  | [], _, h => by cases h
  | z :: l, hn, ht => by
    obtain ⟨h1, h2⟩ := List.nodup_cons.1 hn
    by_cases e : z = t
    · subst e
      have e1 : (l.filter fun y => !(left (.string y) && !(Lit.string y).sameKey (.string z)) && p y) = l.filter fun y => !left (.string y) && p y := by
        refine List.filter_congr fun y hy => ?_
        have hne : y ≠ z := fun e => h1 (e ▸ hy)
        have hk : (Lit.string y).sameKey (.string z) = false := by simp [Lit.sameKey, hne]
        rw [hk]; simp
      rw [List.filter_cons, List.filter_cons, e1, hl]
      cases p z <;> simp [Lit.sameKey]
    · have ht2 : t ∈ l := by
        rcases List.mem_cons.1 ht with h | h
        · exact absurd h.symm e
        · exact h
      have ih := came_step (p := p) hl h2 ht2
      rw [List.filter_cons, List.filter_cons]
      have e2 : (!(left (.string z) && !(Lit.string z).sameKey (.string t)) && p z) = (!left (.string z) && p z) := by
        have hk : (Lit.string z).sameKey (.string t) = false := by simp [Lit.sameKey, e]
        rw [hk]; simp
      rw [e2]
      cases (!left (.string z) && p z) with
      | true => rw [if_pos rfl, if_pos rfl, List.length_cons, List.length_cons, ih]; omega
      | false => rw [if_neg (by simp), if_neg (by simp)]; exact ih
end Go.Proofs.YtohfofecbdfkgaaGreatDoor
