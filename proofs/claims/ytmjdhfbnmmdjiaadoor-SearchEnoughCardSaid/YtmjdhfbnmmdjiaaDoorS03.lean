/- Laid together by a tool from the texts of this seat: HitF HitG HitH HitI SrA SrB. Conditions: each theorem's own. -/
import Derived.Test.YtmjdhfbnmmdjiaaDoorS02
import Derived.Laws.IdiomStrings
/- Sets sorted, none twice; least sets. -/
namespace Go.Proofs.YtmjdhfbnmmdjiaaDoor
open Go.RowKit

/-- Sets in order, none twice. -/
structure Srt (zss xss : List (List Int)) : Prop where
  perm : zss.Perm xss
  lt : zss.Pairwise fun a b => cmpL a b < 0
theorem Srt.nil : Srt [] [] := ⟨List.Perm.refl _, List.Pairwise.nil⟩
theorem Srt.nodup {zss xss : List (List Int)} (h : Srt zss xss) : zss.Nodup := h.lt.imp fun {a b} hab e => by
  rw [e, cmpL_self] at hab
  omega
/-- Sorted sets are one row. -/
theorem Srt.eq {yss zss xss : List (List Int)} (h : Srt zss xss) (k : Srt yss xss) : zss = yss := by
  have hp : zss.Perm yss := h.perm.trans k.perm.symm
  refine List.Perm.eq_of_pairwise (le := fun a b => cmpL a b < 0) ?_ h.lt k.lt hp
  intro a b _ _ h1 h2
  rw [cmpL_anti] at h2
  omega
theorem vq_mem {vs : List (Option Addr × Nat × Nat)} {n : Nat} {os : List Nat} (hp : os.Perm (List.range n)) (hn : vs.length = n) {u : Option Addr × Nat × Nat} (hu : u ∈ os.map (vq vs)) : u ∈ vs := by
  obtain ⟨i, hi, rfl⟩ := List.mem_map.1 hu
  have := List.mem_range.1 (hp.mem_iff.1 hi)
  exact List.mem_of_getElem? (vq_at (by omega))
theorem setQ_range (xss : List (List Int)) : (List.range xss.length).map (setQ xss) = xss := by
  apply List.ext_getElem
  · simp
  · intro i h1 h2
    simp [setQ, List.getElem?_eq_getElem h2]
/-- A sorted row. -/
theorem RowsAt.sorted {w w' : World} {base g cap : Nat} {us : List (Option Addr × Nat × Nat)} {xss : List (List Int)} {os : List Nat} (h : RowsAt w base (some ⟨g, 0, none⟩) cap us xss) (hp : os.Perm (List.range us.length)) (hown : OwnR w' base (some ⟨g, 0, none⟩) cap (os.map (vq us))) (hg : w.grownBy w' (some g)) : RowsAt w' base (some ⟨g, 0, none⟩) cap (os.map (vq us)) (os.map (setQ xss)) := by
  refine ⟨hown, ⟨by simp, fun i u ys h1 h2 => ?_⟩, fun u hu => h.off u (vq_mem hp rfl hu), fun u hu a ha => Nat.lt_of_lt_of_le (h.low u (vq_mem hp rfl hu) a ha) hg.size⟩
  rw [List.getElem?_map] at h1 h2
  cases hi : os[i]? with
  | none => rw [hi] at h1; simp at h1
  | some j =>
    rw [hi] at h1 h2
    simp only [Option.map_some, Option.some.injEq] at h1 h2
    have hj := List.mem_range.1 (hp.mem_iff.1 (List.mem_of_getElem? hi))
    have h3 := vq_at hj
    rw [h1] at h3
    obtain ⟨xs, h4⟩ := getq_ex (show j < xss.length by rw [← h.sets.1]; exact hj)
    rw [setQ_at h4] at h2
    subst h2
    obtain ⟨k1, k2, k3⟩ := h.sets.2 j u xs h3 h4
    exact ⟨k1, k2, ReadL.more (ReadL.grown (A := some ⟨g, 0, none⟩) (n := 0) (c := 0) k3 (Nat.le_refl _) (by simpa [Value.ownBlock] using hg) (h.off u (List.mem_of_getElem? h3))) hg.size⟩
theorem srt_of {xss : List (List Int)} {os : List Nat} (hn : xss.Nodup) (hp : os.Perm (List.range xss.length)) (ho : os.Pairwise fun i j => ¬ cmpL (setQ xss j) (setQ xss i) < 0) : Srt (os.map (setQ xss)) xss := by
  have hperm : (os.map (setQ xss)).Perm xss := (hp.map (setQ xss)).trans (List.Perm.of_eq (setQ_range xss))
  have hnd : (os.map (setQ xss)).Nodup := hperm.nodup_iff.2 hn
  refine ⟨hperm, ?_⟩
  have h1 : (os.map (setQ xss)).Pairwise fun a b => ¬ cmpL b a < 0 := List.pairwise_map.2 ho
  refine (h1.and hnd).imp fun {a b} hab => ?_
  obtain ⟨h2, h3⟩ := hab
  rw [cmpL_anti] at h2
  rcases Int.lt_or_eq_of_le (show cmpL a b ≤ 0 by omega) with h4 | h4
  · exact h4
  · exact absurd (cmpL_zero _ _ h4) h3
theorem adj_of {zss : List (List Int)} (h : zss.Nodup) : ∀ j, 1 ≤ j → j < zss.length → setQ zss j ≠ setQ zss (j - 1) := fun j h1 h2 e => by
  have hp := List.pairwise_iff_getElem.1 h (j - 1) j (by omega) h2 (by omega)
  rw [setQ_at (List.getElem?_eq_getElem h2), setQ_at (List.getElem?_eq_getElem (show j - 1 < zss.length by omega))] at e
  exact hp e.symm

/-- What a call tells that makes a row of sets. -/
def RowPost (w : World) (P : List (List Int) → Prop) (e : Ending) (w' : World) : Prop := ∃ (A : Option Addr) (c : Nat) (us : List (Option Addr × Nat × Nat)) (zss : List (List Int)), e = .returned (.slice A us.length c) ∧ RowsAt w' w.heap.size A c us zss ∧ P zss ∧ Below w.heap.size w w'

theorem ownR_form {w : World} {base cap : Nat} {A : Option Addr} {us : List (Option Addr × Nat × Nat)} (h : OwnR w base A cap us) (hne : us ≠ []) : ∃ g, A = some ⟨g, 0, none⟩ := by
  rcases h.2 with ⟨hv, hn⟩ | ⟨g, cap', cur, hv, _⟩
  · exact absurd (List.eq_nil_of_length_eq_zero hn) hne
  · injection hv with hA
    exact ⟨g, hA⟩

theorem eg_sort1 : ∀ args w, (callFunc 41 args).run Tryd.prog w = .ok (.enter 41 args) w := fun _ _ => by kernel_rfl

set_option maxRecDepth 100000 in
set_option maxHeartbeats 8000000 in
theorem sort_any (A : Option Addr) (c : Nat) (vs : List (Option Addr × Nat × Nat)) (xss : List (List Int)) (w : World) (hr : ReadS w w.heap.size A vs) (hS : SetsAt w w.heap.size vs xss) (hl : vs.length ≤ 100000) (hsm : ∀ xs ∈ xss, xs.length ≤ 1000000) (hnd : xss.Nodup) :
    Calls Tryd.prog 33 #[.slice A vs.length c] w (RowPost w fun zss => Srt zss xss) := by
  have Hm := Lib.hid (made_any 41 #[] eg_sort1 (fun xs => xs) A c vs xss w hr hS hl fun i v xs h1 h2 w' hb => by
    have := sort1_any v xs w' (((hS.2 i v xs h1 h2).below hb).more hb.size) (hsm xs (List.mem_of_getElem? h2))
    simpa using this)
  have HL := Lib.hid (And.intro hS.1 (And.intro hsm hnd))
  clear hr hS hsm hnd
  go_enter Tryd.func33, Tryd.ntmps33
  go_wp2_with fail
  refine Hm.out.mono ?_
  rintro e w1 ⟨A1, c1, us, rfl, hrow, hb1⟩
  rw [List.map_id'] at hrow
  have hlen : us.length = xss.length := hrow.sets.1
  have HB1 := Lib.hid hb1
  clear hb1
  cases us with
  | nil =>
    have hx : xss = [] := List.eq_nil_of_length_eq_zero hlen.symm
    subst hx
    have HR := Lib.hid hrow
    clear hrow hlen
    go_wp2_with fail
    refine (Tryd.slices_SortFunc_none (α := Nat) A1 c1 _ w1).mono ?_
    rintro e w2 ⟨rfl, rfl⟩
    have Hc := Lib.hid (compactL_any A1 c1 [] [] w2 ReadL.nil SetsAt.nil (by simp) (fun xs h => by cases h) (fun j h1 h2 => by simp at h2))
    go_wp2_with fail
    refine Hc.out.mono ?_
    rintro e w3 ⟨rfl, hb3⟩
    go_wp2_with fail
    go_ret
    exact ⟨A1, c1, [], [], rfl, HR.out.below hb3, Srt.nil, ext_trans HB1.out hb3⟩
  | cons u0 us' =>
    obtain ⟨g, rfl⟩ := ownR_form hrow.own (by simp)
    obtain ⟨us, hus⟩ : ∃ us, us = u0 :: us' := ⟨_, rfl⟩
    rw [← hus] at hrow hlen ⊢
    have HR := Lib.hid hrow
    have Hs := Lib.hid (sortL_any us xss us.length g c1 w.heap.size w1.heap.size w1 rfl (by rw [hlen, ← HL.out.1]; omega) hrow.sets (Nat.le_refl _) HL.out.2.1 hrow.off hrow.own)
    have HN := Lib.hid hlen
    clear hrow hlen hus
    go_wp2_with fail
    refine Hs.out.mono ?_
    rintro e w2 ⟨rfl, os, hp, ho, hown, hg⟩
    have hs := HR.out.sorted hp hown hg
    have hsrt : Srt (os.map (setQ xss)) xss := srt_of HL.out.2.2 (by rw [← HN.out]; exact hp) (ho.imp fun {a b} h => by omega)
    have hle : (os.map (vq us)).length = us.length := by rw [List.length_map, hp.length_eq, List.length_range]
    have Hc := Lib.hid (compactL_any (some ⟨g, 0, none⟩) c1 (os.map (vq us)) (os.map (setQ xss)) w2 hs.read hs.sets (by rw [hle, HN.out, ← HL.out.1]; omega) (fun xs hx => HL.out.2.1 xs (hsrt.perm.mem_iff.1 hx)) (by
      rw [hle, ← show (os.map (setQ xss)).length = us.length by rw [List.length_map, hp.length_eq, List.length_range]]
      exact adj_of hsrt.nodup))
    have HS := Lib.hid (And.intro hs hsrt)
    have HB2 : Hid (Below w.heap.size w w2) := Lib.hid (HB1.out.grown hg HB1.out.size fun k hk => by
      have := (OwnL.block HR.out.own g rfl).1
      injection hk with hk
      omega)
    rw [hle] at Hc
    have HLE := Lib.hid hle
    clear hs hsrt hp ho hown hg hle
    go_wp2_with fail
    refine Hc.out.mono ?_
    rintro e w3 ⟨rfl, hb3⟩
    go_wp2_with fail
    go_ret
    exact ⟨some ⟨g, 0, none⟩, c1, os.map (vq us), os.map (setQ xss), by rw [HLE.out]; rfl, HS.out.1.below hb3, HS.out.2, ext_trans HB2.out hb3⟩
end Go.Proofs.YtmjdhfbnmmdjiaaDoor

/- Least sets, where each is least. -/
namespace Go.Proofs.YtmjdhfbnmmdjiaaDoor
open Go.RowKit

/-- A set that makes another one not least. -/
def lessB (t s : List Int) : Bool := decide (t.length < s.length) && partB t s

set_option maxRecDepth 100000 in
set_option maxHeartbeats 8000000 in
theorem least11_any (v : Option Addr × Nat × Nat) (t : List Int) (bs : Nat) (B : Option Addr) (d : Nat) (s : List Int) (w : World) (hv : SetAt w w.heap.size v t) (hbx : BoxS w bs B s.length d) (hs : ReadI w w.heap.size B s) (hl : t.length ≤ 1000000) (hm : s.length ≤ 1000000) :
    Calls Tryd.prog 50 #[.slice v.1 v.2.1 v.2.2, .pointer (some ⟨bs, 0, none⟩)] w fun e w' => e = .returned (.bool (lessB t s)) ∧ Below w.heap.size w w' := by
  have H := Lib.hid (isPart_any v.1 v.2.2 t B d s w hv.r hs hl hm)
  have c0 := hbx.1
  rw [hv.n]
  clear hbx hs hv
  by_cases hlt : t.length < s.length
  · have HE : Hid (lessB t s = partB t s) := Lib.hid (by unfold lessB; rw [decide_eq_true hlt]; rfl)
    go_enter Tryd.func50, Tryd.ntmps50
    go_wp2_with fail
    refine H.out.mono ?_
    rintro e w1 ⟨rfl, hb⟩
    go_wp2_with fail
    go_ret
    exact ⟨ret_bool (by rw [HE.out]), hb⟩
  · have HE : Hid (lessB t s = false) := Lib.hid (by unfold lessB; rw [decide_eq_false hlt]; rfl)
    go_enter Tryd.func50, Tryd.ntmps50
    go_wp2_with fail
    go_ret
    exact ⟨ret_bool (by rw [HE.out]), Below.refl _ _⟩

theorem eg_least11 : ∀ args w, (callFunc 50 args).run Tryd.prog w = .ok (.enter 50 args) w := fun _ _ => by kernel_rfl
theorem eg_least1 : ∀ args w, (callFunc 49 args).run Tryd.prog w = .ok (.enter 49 args) w := fun _ _ => by kernel_rfl

set_option maxRecDepth 100000 in
set_option maxHeartbeats 8000000 in
theorem least1_any (v : Option Addr × Nat × Nat) (s : List Int) (ba : Nat) (A : Option Addr) (c : Nat) (us : List (Option Addr × Nat × Nat)) (zss : List (List Int)) (w : World) (hv : SetAt w w.heap.size v s) (hbx : BoxS w ba A us.length c) (hr : ReadS w w.heap.size A us) (hS : SetsAt w w.heap.size us zss) (hl : us.length ≤ 100000) (hsm : ∀ xs ∈ zss, xs.length ≤ 1000000) (hm : s.length ≤ 1000000) :
    Calls Tryd.prog 49 #[.slice v.1 v.2.1 v.2.2, .pointer (some ⟨ba, 0, none⟩)] w fun e w' => e = .returned (.bool ((List.range us.length).any fun j => lessB (setQ zss j) s)) ∧ Below w.heap.size w w' := by
  have hmf : ∀ (fn : Fn) (first cap : Array Value) (w : World), (Instr.makeFunc fn first cap).run Tryd.prog w = .ok (.func fn first cap) w := fun _ _ _ _ => rfl
  rw [hv.n]
  obtain ⟨w1, hw1⟩ : ∃ w1, w1 = w.alloc (.cells #[.slice v.1 s.length v.2.2] 29) := ⟨_, rfl⟩
  have hb1 : Below w.heap.size w w1 := by rw [hw1]; exact ext_alloc (Below.refl _ _) _
  have hbox : BoxS w1 w.heap.size v.1 s.length v.2.2 := by rw [hw1]; exact ⟨by simp, by simp⟩
  have c0 := (hbx.later hb1).1
  have H := Lib.hid (consS_any 50 (.pointer (some ⟨w.heap.size, 0, none⟩)) eg_least11 (fun j => lessB (setQ zss j) s) A c us w1 ((ReadL.below hr hb1).more hb1.size) (by omega) fun i u hu w' hb => by
    obtain ⟨xs, hx⟩ := getq_ex (show i < zss.length by rw [← hS.1]; exact getq_lt hu)
    have hb' : Below w.heap.size w w' := ext_trans hb1 hb
    have h1 := ((hS.2 i u xs hu hx).below hb').more hb'.size
    rw [setQ_at hx]
    exact least11_any u xs w.heap.size v.1 v.2.2 s w' h1 (hbox.later hb) (ReadL.more (ReadL.below hv.r hb') hb'.size) (hsm xs (List.mem_of_getElem? hx)) hm)
  have HB := Lib.hid hb1
  clear hv hbx hr hS hl hsm hm hbox hb1
  go_enter Tryd.func49, Tryd.ntmps49
  go_upto_region 1 with fail
  rw [← hw1]
  clear hw1
  go_wp2_with fail
  refine H.out.mono ?_
  rintro e w2 ⟨rfl, hb⟩
  go_wp2_with fail
  go_ret
  exact ⟨rfl, ext_trans HB.out hb⟩

set_option maxRecDepth 100000 in
set_option maxHeartbeats 8000000 in
theorem deleteL_any (K : FuncId) (cap : Value) (eg : ∀ args w, (callFunc K args).run Tryd.prog w = .ok (.enter K args) w) (A : Option Addr) (c : Nat) (us : List (Option Addr × Nat × Nat)) (w : World) (hr : ReadS w w.heap.size A us) (hl : us.length ≤ 100000) (hp : ∀ (i : Nat) v, us[i]? = some v → Asks w K cap (.slice v.1 v.2.1 v.2.2) false) :
    Calls Tryd.prog 48 #[.slice A us.length c, .func (.func K) #[] #[cap]] w fun e w' => e = .returned (.slice A us.length c) ∧ Below w.heap.size w w' := by
  have H := Lib.hid (idxS_any K cap eg (fun _ => false) A c us w hr (by omega) hp)
  clear hr hp
  go_enter Tryd.func48, Tryd.ntmps48
  go_wp2_with fail
  refine H.out.mono ?_
  rintro e w1 ⟨⟨k, rfl, hk, hk1⟩, hb⟩
  obtain rfl : k = -1 := hk1 (by
    have h2 : ((List.range us.length).any fun _ => false) = false := by simp
    rw [h2] at hk
    have := of_decide_eq_false hk
    omega)
  clear hk hk1
  go_wp2_with fail
  go_ret
  exact ⟨rfl, hb⟩

set_option maxRecDepth 100000 in
set_option maxHeartbeats 8000000 in
theorem least_any (A : Option Addr) (c : Nat) (vs : List (Option Addr × Nat × Nat)) (xss : List (List Int)) (w : World) (hr : ReadS w w.heap.size A vs) (hS : SetsAt w w.heap.size vs xss) (hl : vs.length ≤ 100000) (hsm : ∀ xs ∈ xss, xs.length ≤ 1000000) (hnd : xss.Nodup) (hle : ∀ s ∈ xss, ∀ t ∈ xss, lessB t s = false) :
    Calls Tryd.prog 35 #[.slice A vs.length c] w (RowPost w fun zss => Srt zss xss) := by
  have hmf : ∀ (fn : Fn) (first cap : Array Value) (w : World), (Instr.makeFunc fn first cap).run Tryd.prog w = .ok (.func fn first cap) w := fun _ _ _ _ => rfl
  have Hs := Lib.hid (sort_any A c vs xss w hr hS hl hsm hnd)
  have HL := Lib.hid (And.intro hS.1 (And.intro hl (And.intro hsm hle)))
  clear hr hS hl hsm hnd hle
  go_enter Tryd.func35, Tryd.ntmps35
  go_wp2_with fail
  refine Hs.out.mono ?_
  rintro e w1 ⟨A1, c1, us, zss, rfl, hrow, hsrt, hb1⟩
  have hul : us.length ≤ 100000 := by
    rw [hrow.sets.1, hsrt.perm.length_eq, ← HL.out.1]
    exact HL.out.2.1
  have Hc := Lib.hid (cloneR_any A1 c1 us w1 hrow.read hul)
  have HR := Lib.hid (And.intro hrow (And.intro hsrt hb1))
  clear hrow hsrt hb1
  go_wp2_with fail
  refine Hc.out.mono ?_
  rintro e w2 ⟨A2, c2, rfl, hown2, hb2⟩
  obtain ⟨w3, hw3⟩ : ∃ w3, w3 = w2.alloc (.cells #[.slice A2 us.length c2] 25) := ⟨_, rfl⟩
  have hb3 : Below w2.heap.size w2 w3 := by rw [hw3]; exact ext_alloc (Below.refl _ _) _
  have hb13 : Below w1.heap.size w1 w3 := ext_trans hb2 hb3
  have hbox : BoxS w3 w2.heap.size A2 us.length c2 := by rw [hw3]; exact ⟨by simp, by simp⟩
  have hrow3 := HR.out.1.below hb13
  have hr2 : ReadS w3 w3.heap.size A2 us := ReadL.more (ReadL.below (OwnL.read encS_len hown2) hb3) hb3.size
  have Hd := Lib.hid (deleteL_any 49 (.pointer (some ⟨w2.heap.size, 0, none⟩)) eg_least1 A1 c1 us w3 hrow3.read hul fun i v hv w' hb => by
    obtain ⟨s, hs⟩ := getq_ex (show i < zss.length by rw [← hrow3.sets.1]; exact getq_lt hv)
    have h1 := ((hrow3.sets.2 i v s hv hs).below hb).more hb.size
    have hmem : ∀ z ∈ zss, z ∈ xss := fun z hz => HR.out.2.1.perm.mem_iff.1 hz
    have h := least1_any v s w2.heap.size A2 c2 us zss w' h1 (hbox.later hb) (ReadL.more (ReadL.below hr2 hb) hb.size) ((hrow3.sets.below hb).more hb.size) hul (fun xs hx => HL.out.2.2.1 xs (hmem xs hx)) (HL.out.2.2.1 s (hmem s (List.mem_of_getElem? hs)))
    have hf : ((List.range us.length).any fun j => lessB (setQ zss j) s) = false := by
      rw [List.any_eq_false]
      intro j hj
      have hj2 := List.mem_range.1 hj
      obtain ⟨t, ht⟩ := getq_ex (show j < zss.length by rw [← hrow3.sets.1]; exact hj2)
      rw [setQ_at ht, HL.out.2.2.2 s (hmem s (List.mem_of_getElem? hs)) t (hmem t (List.mem_of_getElem? ht))]
      simp
    rw [hf] at h
    exact h)
  have HR3 := Lib.hid (And.intro hrow3 (ext_trans HR.out.2.2 hb13))
  clear hown2 hb2 hb3 hb13 hbox hrow3 hr2
  go_upto_region 3 with fail
  rw [← hw3]
  clear hw3
  go_wp2_with fail
  refine Hd.out.mono ?_
  rintro e w4 ⟨rfl, hb4⟩
  go_wp2_with fail
  go_ret
  exact ⟨A1, c1, us, zss, rfl, HR3.out.1.below hb4, HR.out.2.1, ext_trans HR3.out.2 hb4⟩
end Go.Proofs.YtmjdhfbnmmdjiaaDoor

/- What sets lack; a set of one. -/
namespace Go.Proofs.YtmjdhfbnmmdjiaaDoor
open Go.RowKit

set_option maxRecDepth 100000 in
set_option maxHeartbeats 8000000 in
theorem insert0_any (base : Nat) (S : Option Addr) (cs : Nat) (n : Int) (bn : Nat) (w : World) (hown : OwnI w base S cs []) (hbase : base ≤ w.heap.size) (hn : w.cell? ⟨bn, 0, none⟩ = some (.int .i64 n)) (hb : bn < w.heap.size) :
    Calls Tryd.prog 53 #[.slice S 0 cs, .int .i64 0, .slice (some ⟨bn, 0, none⟩) 1 1] w fun e w' => ∃ (A : Option Addr) (c : Nat), e = .returned (.slice A 1 c) ∧ OwnI w' base A c [n] ∧ Below base w w' := by
  have hr : ReadI w w.heap.size (some ⟨bn, 0, none⟩) [n] := fun _ => ⟨bn, 0, rfl, hb, fun i x hx j u hu => by
    match i, hx with
    | 0, hx =>
      simp only [List.getElem?_cons_zero, Option.some.injEq] at hx
      subst hx
      match j, hu with
      | 0, hu =>
        simp [encI] at hu
        subst hu
        exact hn
      | j + 1, hu => simp [encI] at hu
    | i + 1, hx => simp at hx⟩
  have HO := Lib.hid hown
  clear hn hb hown
  go_enter Tryd.func53, Tryd.ntmps53
  go_wp2_with (at_builtin; refine wpList_appI rfl (.tmp 23) (.tmp 24) rfl base (l := []) rfl HO.out (l2 := [n]) rfl hr (by simp) hbase ?_; intro A2 cap2 w3 hown3 hg3 _)
  go_ret
  exact ⟨A2, cap2, rfl, hown3, below_app hg3 hbase fun a ha => (OwnL.lt HO.out a ha).1⟩

set_option maxRecDepth 100000 in
set_option maxHeartbeats 8000000 in
theorem with0_any (S : Option Addr) (cs : Nat) (n : Int) (w : World) :
    Calls Tryd.prog 37 #[.slice S 0 cs, .int .i64 n] w (MkPost [n] w) := by
  have hbs := Lib.hid (Tryd.slices_BinarySearch_int_empty S cs n w)
  have hcl := Lib.hid (cloneI_any S cs [] w ReadL.nil (by simp))
  rw [List.length_nil] at hcl
  go_enter Tryd.func37, Tryd.ntmps37
  go_wp2_with fail
  refine hbs.out.mono ?_
  rintro e w1 ⟨rfl, rfl⟩
  go_wp2_with fail
  refine hcl.out.mono ?_
  rintro e w2 ⟨V, cv, rfl, hown2, hb2⟩
  obtain ⟨w3, hw3⟩ : ∃ w3, w3 = w2.alloc (.cells #[.int .i64 n] 3) := ⟨_, rfl⟩
  have hb3 : Below w2.heap.size w2 w3 := by rw [hw3]; exact ext_alloc (Below.refl _ _) _
  have hb13 := ext_trans hb2 hb3
  have Hi := Lib.hid (insert0_any w1.heap.size V cv n w2.heap.size w3 (OwnL.below hown2 hb3 (Nat.le_refl _)) hb13.size (by rw [hw3]; simp) (by rw [hw3]; simp))
  have HB := Lib.hid hb13
  clear hb3 hb13 hb2 hown2
  go_wp2_with fail
  rw [← hw3]
  clear hw3
  refine Hi.out.mono ?_
  rintro e w4 ⟨A, c, rfl, hown, hb⟩
  go_wp2_with fail
  go_ret
  exact ⟨A, c, rfl, OwnI.set hown, fun a ha => OwnL.lt hown a ha, HB.out.trans hb⟩

/-- What a set lacks of the numbers up to one. -/
def missL (n : Nat) (s : List Int) : List Int := ((List.range n).map fun (k : Nat) => (k : Int) + 1).filter fun k => !s.contains k
theorem missL_succ (n : Nat) (s : List Int) : missL (n + 1) s = if s.contains ((n : Int) + 1) = true then missL n s else missL n s ++ [(n : Int) + 1] := by
  unfold missL
  rw [List.range_succ, List.map_append, List.filter_append]
  by_cases h : s.contains ((n : Int) + 1) = true
  · have h2 : ((n : Int) + 1) ∈ s := by simpa using h
    rw [if_pos h]; simp [h2]
  · rw [if_neg h]
    have h2 : ¬ ((n : Int) + 1) ∈ s := by simpa using h
    simp [h2]
theorem missL_le (n : Nat) (s : List Int) : (missL n s).length ≤ n := by
  unfold missL
  refine Nat.le_trans (List.length_filter_le _ _) ?_
  simp

set_option maxRecDepth 100000 in
set_option maxHeartbeats 8000000 in
theorem miss1_any (v : Option Addr × Nat × Nat) (s : List Int) (bn n : Nat) (w : World) (hv : SetAt w w.heap.size v s) (hn : w.cell? ⟨bn, 0, none⟩ = some (.int .i64 n)) (hb : bn < w.heap.size) (hn1 : n ≤ 100000) (hm : s.length ≤ 1000000) :
    Calls Tryd.prog 39 #[.slice v.1 v.2.1 v.2.2, .pointer (some ⟨bn, 0, none⟩)] w (MkPost (missL n s) w) := by
  have HV := Lib.hid (And.intro hv (And.intro hn (And.intro hb hm)))
  rw [hv.n]
  clear hv hn hb hm
  go_enter Tryd.func39, Tryd.ntmps39
  go_upto_region 3 with fail
  go_loopw [4, 5] (fun s4 s5 wr => ∃ (k : Nat) (A : Option Addr) (c : Nat), s4 = .slice A (missL k s).length c ∧ s5 = .int .i64 ((k : Int) + 1) ∧ k ≤ n ∧ Hid (OwnI wr w.heap.size A c (missL k s) ∧ Below w.heap.size w wr)) (fun _ s5 _ => n + 1 - (Lib.intOf s5).toNat)
  case atStart => exact ⟨0, none, 0, rfl, rfl, Nat.zero_le _, Lib.hid ⟨OwnL.nil, Below.refl _ _⟩⟩
  case round =>
    obtain ⟨k, A, c, rfl, rfl, hk, HR⟩ := hrel
    have c0 : wr.cell? ⟨bn, 0, none⟩ = some (.int .i64 n) := (HR.out.2.cell (p := ⟨bn, 0, none⟩) HV.out.2.2.1).trans HV.out.2.1
    by_cases hl : k < n
    · have hl1 : (k : Int) + 1 ≤ (n : Int) := by omega
      have Hc := Lib.hid (contI_any v.1 v.2.2 s ((k : Int) + 1) wr (ReadL.more (ReadL.below HV.out.1.r HR.out.2) HR.out.2.size) HV.out.2.2.2)
      have hwi : IntKind.i64.wrap ((k : Int) + 1 + 1) = ((k + 1 : Nat) : Int) + 1 := (IntWalk.i64_in _ (by omega)).trans (by omega)
      have HS := Lib.hid (missL_succ k s)
      cases hcb : s.contains ((k : Int) + 1) with
      | true =>
        rw [hcb] at Hc HS
        have HE : Hid (missL (k + 1) s = missL k s) := Lib.hid (by rw [HS.out, if_pos rfl])
        clear hcb
        go_wp2_with fail
        refine Hc.out.mono ?_
        rintro e w1 ⟨rfl, rfl⟩
        go_wp2_with fail
        go_roundw
        case rel => exact ⟨k + 1, A, c, by rw [HE.out], by first | rfl | (rw [← hwi]; rfl), hl, Lib.hid (by rw [HE.out]; exact HR.out)⟩
        case measure => simp [Lib.intOf]; omega
      | false =>
        rw [hcb] at Hc HS
        have HE : Hid (missL (k + 1) s = missL k s ++ [(k : Int) + 1]) := Lib.hid (by rw [HS.out]; simp)
        clear hcb
        obtain ⟨w3, hw3⟩ : ∃ w3, w3 = wr.alloc (.cells #[.int .i64 ((k : Int) + 1)] 3) := ⟨_, rfl⟩
        have HN : Hid (ReadI w3 (wr.heap.size + 1) (some ⟨wr.heap.size, 0, none⟩) [(k : Int) + 1]) := Lib.hid (by rw [hw3]; exact readI_new wr _)
        have HO : Hid (OwnI w3 w.heap.size A c (missL k s) ∧ Below w.heap.size w w3) := Lib.hid (by rw [hw3]; exact ⟨OwnL.alloc HR.out.1 _, ext_alloc HR.out.2 _⟩)
        have hlen : (missL k s).length + [(k : Int) + 1].length ≤ 10000000 := by have := missL_le k s; simp; omega
        have hbase : w.heap.size ≤ w3.heap.size := HO.out.2.size
        go_wp2_with fail
        refine Hc.out.mono ?_
        rintro e w1 ⟨rfl, rfl⟩
        go_wp2_with (at_builtin; rw [← hw3]; refine wpList_appI rfl (.tmp 15) (.tmp 17) rfl w.heap.size (l := missL k s) rfl HO.out.1 (l2 := [(k : Int) + 1]) rfl HN.out hlen hbase ?_; intro A2 c2 w4 hown hg _; clear hw3; have HF := Lib.hid (And.intro hown hg); clear hown hg)
        exact ⟨⟨k + 1, A2, c2, by rw [HE.out]; simp, by simp, hl, Lib.hid ⟨by rw [HE.out]; exact HF.out.1, ext_app HO.out.2 HF.out.2 fun j hj => (OwnL.block HO.out.1 j hj).1⟩⟩, by simp [Lib.intOf]; omega⟩
    · have hl1 : ¬ (k : Int) + 1 ≤ (n : Int) := by omega
      obtain rfl : k = n := by omega
      go_wp2_with fail
      go_ret
      exact ⟨A, c, rfl, OwnI.set HR.out.1, fun a ha => OwnL.lt HR.out.1 a ha, HR.out.2⟩

theorem eg_miss1 : ∀ args w, (callFunc 39 args).run Tryd.prog w = .ok (.enter 39 args) w := fun _ _ => by kernel_rfl

set_option maxRecDepth 100000 in
set_option maxHeartbeats 8000000 in
theorem missing_any (A : Option Addr) (c : Nat) (vs : List (Option Addr × Nat × Nat)) (xss : List (List Int)) (n : Nat) (w : World) (hr : ReadS w w.heap.size A vs) (hS : SetsAt w w.heap.size vs xss) (hl : vs.length ≤ 100000) (hsm : ∀ xs ∈ xss, xs.length ≤ 1000000) (hn : n ≤ 100000) :
    Calls Tryd.prog 31 #[.slice A vs.length c, .int .i64 n] w (RowPost w fun zss => zss = xss.map (missL n)) := by
  have hmf : ∀ (fn : Fn) (first cap : Array Value) (w : World), (Instr.makeFunc fn first cap).run Tryd.prog w = .ok (.func fn first cap) w := fun _ _ _ _ => rfl
  obtain ⟨w1, hw1⟩ : ∃ w1, w1 = w.alloc (.cells #[.int .i64 n] 3) := ⟨_, rfl⟩
  have hb1 : Below w.heap.size w w1 := by rw [hw1]; exact ext_alloc (Below.refl _ _) _
  have hc1 : w1.cell? ⟨w.heap.size, 0, none⟩ = some (.int .i64 n) := by rw [hw1]; simp
  have hlt : w.heap.size < w1.heap.size := by rw [hw1]; simp
  have H := Lib.hid (made_any 39 #[.pointer (some ⟨w.heap.size, 0, none⟩)] eg_miss1 (missL n) A c vs xss w1 ((ReadL.below hr hb1).more hb1.size) ((hS.below hb1).more hb1.size) hl fun i v xs h1 h2 w' hb => by
    have hb' : Below w.heap.size w w' := ext_trans hb1 hb
    have := miss1_any v xs w.heap.size n w' (((hS.2 i v xs h1 h2).below hb').more hb'.size) ((hb.cell (p := ⟨w.heap.size, 0, none⟩) hlt).trans hc1) (Nat.lt_of_lt_of_le hlt hb.size) hn (hsm xs (List.mem_of_getElem? h2))
    simpa using this)
  have HB := Lib.hid hb1
  clear hr hS hl hsm hb1 hc1 hlt
  go_enter Tryd.func31, Tryd.ntmps31
  go_upto_region 1 with fail
  rw [← hw1]
  clear hw1
  go_wp2_with fail
  refine H.out.mono ?_
  rintro e w2 ⟨A2, c2, us, rfl, hrow, hb⟩
  go_wp2_with fail
  go_ret
  exact ⟨A2, c2, us, _, rfl, ⟨OwnL.lower hrow.own HB.out.size, hrow.sets, hrow.off, hrow.low⟩, rfl, ext_trans HB.out hb⟩
end Go.Proofs.YtmjdhfbnmmdjiaaDoor

/- hit.All, of no set and of one. -/
namespace Go.Proofs.YtmjdhfbnmmdjiaaDoor
open Go.RowKit

theorem RowsAt.down {w : World} {base base' cap : Nat} {A : Option Addr} {us : List (Option Addr × Nat × Nat)} {xss : List (List Int)} (h : RowsAt w base A cap us xss) (hb : base' ≤ base) : RowsAt w base' A cap us xss := ⟨OwnL.lower h.own hb, h.sets, h.off, h.low⟩
theorem rows_nil1 (w : World) : RowsAt (w.alloc (.cells #[.slice none 0 0] 29)) w.heap.size (some ⟨w.heap.size, 0, none⟩) 1 [(none, 0, 0)] [[]] := by
  refine ⟨?_, ⟨rfl, fun i v xs h1 h2 => ?_⟩, fun u hu => ?_, fun u hu a ha => ?_⟩
  · refine ⟨rfl, .inr ⟨w.heap.size, 1, #[.slice none 0 0], rfl, Nat.le_refl _, heap_alloc_new w _, Nat.le_refl _, by unfold maxLen; omega, rfl, rfl⟩⟩
  · match i, h1, h2 with
    | 0, h1, h2 =>
      simp only [List.getElem?_cons_zero, Option.some.injEq] at h1 h2
      subst h1 h2
      exact ⟨rfl, Nat.le_refl _, ReadL.nil⟩
    | i + 1, h1, _ => simp at h1
  · rw [List.mem_singleton] at hu
    subst hu
    exact fun a b _ hb => by cases hb
  · rw [List.mem_singleton] at hu
    subst hu
    cases ha

/-- Sets of one number each. -/
def onesL (xs : List Int) : List (List Int) := xs.map fun x => [x]
theorem onesL_nodup {xs : List Int} (h : xs.Nodup) : (onesL xs).Nodup := by
  unfold onesL
  rw [List.Nodup, List.pairwise_map]
  exact h.imp fun {a b} hab e => hab (by simpa using e)
theorem onesL_less {xs : List Int} : ∀ s ∈ onesL xs, ∀ t ∈ onesL xs, lessB t s = false := by
  intro s hs t ht
  obtain ⟨a, _, rfl⟩ := List.mem_map.1 hs
  obtain ⟨b, _, rfl⟩ := List.mem_map.1 ht
  rfl
theorem meetsB_nil (xs : List Int) : meetsB xs [] = false := by
  unfold meetsB
  cases xs <;> rfl

/-- What All makes of no set, or of one. -/
def allP (xss : List (List Int)) (zss : List (List Int)) : Prop := match xss with
  | [] => zss = [[]]
  | xs :: _ => Srt zss (onesL xs)

def AllPost (xss : List (List Int)) (w : World) (e : Ending) (w' : World) : Prop := ∃ (A' : Option Addr) (c' : Nat) (us : List (Option Addr × Nat × Nat)) (zss : List (List Int)), e = .returned (.tuple #[.slice A' us.length c', .int .i64 0]) ∧ RowsAt w' w.heap.size A' c' us zss ∧ allP xss zss ∧ Below w.heap.size w w'

set_option maxRecDepth 100000 in
set_option maxHeartbeats 8000000 in
theorem all_any (A : Option Addr) (c : Nat) (vs : List (Option Addr × Nat × Nat)) (xss : List (List Int)) (lim : Int) (w : World) (hr : ReadS w w.heap.size A vs) (hS : SetsAt w w.heap.size vs xss) (h1 : xss.length ≤ 1) (hsm : ∀ xs ∈ xss, xs.length ≤ 1000 ∧ xs.Nodup) (hlim : 1000 ≤ lim) :
    Calls Tryd.prog 30 #[.slice A vs.length c, .int .i64 lim] w (AllPost xss w) := by
  obtain ⟨w1, hw1⟩ : ∃ w1, w1 = w.alloc (.cells #[.slice none 0 0] 29) := ⟨_, rfl⟩
  have hb1 : Below w.heap.size w w1 := by rw [hw1]; exact ext_alloc (Below.refl _ _) _
  have hrow1 : RowsAt w1 w.heap.size (some ⟨w.heap.size, 0, none⟩) 1 [(none, 0, 0)] [[]] := by rw [hw1]; exact rows_nil1 w
  have hvl : vs.length ≤ 100000 := by rw [hS.1]; omega
  have hnd : xss.Nodup := by
    match xss, h1 with
    | [], _ => exact List.nodup_nil
    | [x], _ => simp
  have hles : ∀ s ∈ xss, ∀ t ∈ xss, lessB t s = false := by
    match xss, h1 with
    | [], _ => exact fun s hs => by cases hs
    | [x], _ =>
      intro s hs t ht
      rw [List.mem_singleton] at hs ht
      subst hs ht
      unfold lessB
      simp
  have Hl := Lib.hid (least_any A c vs xss w1 ((ReadL.below hr hb1).more hb1.size) ((hS.below hb1).more hb1.size) hvl (fun xs hx => by have := (hsm xs hx).1; omega) hnd hles)
  have HK := Lib.hid (And.intro hrow1 (And.intro hb1 (And.intro h1 hsm)))
  clear hr hS h1 hsm hb1 hrow1 hvl hnd hles
  go_enter Tryd.func30, Tryd.ntmps30
  go_upto_region 2 with fail
  rw [← hw1]
  clear hw1
  go_wp2_with fail
  refine Hl.out.mono ?_
  clear Hl
  rintro e w2 ⟨A2, c2, us, zss, rfl, hrow2, hsrt, hb2⟩
  have hzl : us.length = xss.length := by rw [hrow2.sets.1, hsrt.perm.length_eq]
  have HZ : Hid (zss = xss) := Lib.hid (by
    have hp := hsrt.perm
    have h1 := HK.out.2.2.1
    clear hzl hsrt hrow2
    match xss, h1 with
    | [], _ => exact List.eq_nil_of_length_eq_zero hp.length_eq
    | [x], _ => exact List.perm_singleton.1 hp)
  have HR2 := Lib.hid (And.intro hrow2 (And.intro hb2 hzl))
  clear hrow2 hsrt hb2 hzl
  have HO2 : Hid (RowsAt w2 w.heap.size (some ⟨w.heap.size, 0, none⟩) 1 [(none, 0, 0)] [[]]) := Lib.hid (HK.out.1.below HR2.out.2.1)
  have HB2 : Hid (Below w.heap.size w w2) := Lib.hid (ext_trans HK.out.2.1 HR2.out.2.1)
  go_upto_region 3 with fail
  go_loopw [6, 8, 9, 11, 13, 18] (fun s6 _ _ _ _ s18 wr => ∃ (k : Nat) (A' : Option Addr) (c' : Nat) (us' : List (Option Addr × Nat × Nat)) (zss' : List (List Int)), s6 = .slice A' us'.length c' ∧ s18 = .int .i64 k ∧ k ≤ us.length ∧ Hid (RowsAt wr w.heap.size A' c' us' zss' ∧ Below w2.heap.size w2 wr ∧ (k = 0 → zss' = [[]]) ∧ (k ≠ 0 → allP xss zss'))) (fun _ _ _ _ _ s18 _ => us.length - (Lib.intOf s18).toNat)
  case atStart => exact ⟨0, some ⟨w.heap.size, 0, none⟩, 1, [(none, 0, 0)], [[]], rfl, rfl, Nat.zero_le _, Lib.hid ⟨HO2.out, Below.refl _ _, fun _ => rfl, fun h => absurd rfl h⟩⟩
  case round =>
    obtain ⟨k, A', c', us', zss', rfl, rfl, hk, HR⟩ := hrel
    by_cases hl : k < us.length
    · obtain ⟨xs, HX⟩ : ∃ xs, Hid (xss = [xs] ∧ us.length = 1 ∧ k = 0) := by
        have h1 := HK.out.2.2.1
        have h3 := HR2.out.2.2
        match xss, h1, h3 with
        | [], _, h3 =>
          have h4 : us.length = 0 := h3
          omega
        | [x], _, h3 =>
          have h4 : us.length = 1 := h3
          exact ⟨x, Lib.hid ⟨rfl, h4, by omega⟩⟩
      obtain rfl : k = 0 := HX.out.2.2
      have hus : us.length = 1 := HX.out.2.1
      obtain ⟨v, hv⟩ := getq_ex hl
      have hsv : SetAt w2 w2.heap.size v xs := HR2.out.1.sets.2 0 v xs hv (by rw [HZ.out, HX.out.1]; rfl)
      obtain ⟨b, o, rfl, hb, c0⟩ := ReadL.slice (ReadL.below HR2.out.1.read HR.out.2.1) hv
      rw [Nat.add_zero] at c0
      have hout : zss' = [[]] := HR.out.2.2.1 rfl
      have hul : us'.length = 1 := by rw [HR.out.1.sets.1, hout]; rfl
      obtain ⟨v', hv'⟩ := getq_ex (show 0 < us'.length by omega)
      have hsv' : SetAt wr wr.heap.size v' [] := HR.out.1.sets.2 0 v' [] hv' (by rw [hout]; rfl)
      obtain ⟨b', o', rfl, hb', c0'⟩ := ReadL.slice HR.out.1.read hv'
      rw [Nat.add_zero] at c0'
      have HV := Lib.hid (And.intro hsv (And.intro hsv' (And.intro hus hul)))
      obtain ⟨ws, hws⟩ : ∃ ws, ws = wr := ⟨_, rfl⟩
      rw [← hws] at HR hsv' c0 c0' hb'
      have HV := Lib.hid (And.intro hsv (And.intro hsv' (And.intro hus hul)))
      have HC := Lib.hid (And.intro hb' c0')
      have hul0 : 0 < us'.length := by omega
      have HSM := Lib.hid (HK.out.2.2.2 xs (by rw [HX.out.1]; simp))
      rw [hws] at c0
      clear hsv hsv' hv hv' hout hus hul c0' hb'
      go_upto_region 7 with fail
      rw [← hws]
      clear c0 hws
      go_loopw [9, 11, 13, 24] (fun s9 _ _ s24 wq => ∃ (j : Nat) (A9 : Option Addr) (c9 : Nat) (us9 : List (Option Addr × Nat × Nat)) (zss9 : List (List Int)), s9 = .slice A9 us9.length c9 ∧ s24 = .int .i64 j ∧ j ≤ us'.length ∧ Hid (RowsAt wq w.heap.size A9 c9 us9 zss9 ∧ Below ws.heap.size ws wq ∧ (j = 0 → zss9 = [] ∧ A9 = none ∧ c9 = 0) ∧ (j ≠ 0 → zss9 = onesL xs))) (fun _ _ _ s24 _ => us'.length - (Lib.intOf s24).toNat)
      case atStart => exact ⟨0, none, 0, [], [], rfl, rfl, Nat.zero_le _, Lib.hid ⟨RowsAt.nil, Below.refl _ _, fun _ => ⟨rfl, rfl, rfl⟩, fun h => absurd rfl h⟩⟩
      case round =>
        obtain ⟨j, A9, c9, us9, zss9, rfl, rfl, hj, H9⟩ := hrel
        by_cases hl9 : j < us'.length
        · obtain rfl : j = 0 := by have := HV.out.2.2.2; omega
          obtain ⟨h9, rfl, rfl⟩ := H9.out.2.2.1 rfl
          have hu9 : us9 = [] := List.eq_nil_of_length_eq_zero (by rw [H9.out.1.sets.1, h9]; rfl)
          subst h9 hu9
          have c0' : wr.cell? ⟨b', o', none⟩ = some (.slice v'.1 v'.2.1 v'.2.2) := (H9.out.2.1.cell (p := ⟨b', o', none⟩) HC.out.1).trans HC.out.2
          obtain ⟨wq, hwq⟩ : ∃ wq, wq = wr := ⟨_, rfl⟩
          rw [← hwq] at H9
          have hvn : v.2.1 = xs.length := HV.out.1.n
          have hvn' : v'.2.1 = 0 := HV.out.2.1.n
          have hbq : Below w2.heap.size w2 wq := ext_trans HR.out.2.1 H9.out.2.1
          have Hm := Lib.hid (meets_any v.1 v.2.2 xs v'.1 v'.2.2 [] wq ⟨rfl, HV.out.1.c, ReadL.more (ReadL.below HV.out.1.r hbq) hbq.size⟩ ⟨rfl, Nat.zero_le _, ReadL.nil⟩ (by have := HSM.out.1; omega) (by simp))
          rw [meetsB_nil] at Hm
          rw [hwq] at Hm
          obtain ⟨A1, n1, c1⟩ := v
          obtain ⟨A2', n2, c2'⟩ := v'
          dsimp only at hvn hvn' Hm c0'
          subst hvn hvn'
          rw [List.length_nil] at Hm
          clear hbq
          have HXS : Hid (ReadI wq wq.heap.size A1 xs) := Lib.hid (ReadL.more (ReadL.below HV.out.1.r (ext_trans HR.out.2.1 H9.out.2.1)) (ext_trans HR.out.2.1 H9.out.2.1).size)
          have HQW := Lib.hid hwq
          clear hwq
          go_wp2_with fail
          refine Hm.out.mono ?_
          rintro e wm ⟨rfl, hbm⟩
          have HBm : Hid (Below wq.heap.size wq wm) := Lib.hid (by rw [HQW.out]; exact hbm)
          clear hbm Hm
          go_upto_region 12 with fail
          go_loopw [9, 13, 37] (fun s9 _ s37 wi => ∃ (i : Nat) (A9 : Option Addr) (c9 : Nat) (us9 : List (Option Addr × Nat × Nat)), s9 = .slice A9 us9.length c9 ∧ s37 = .int .i64 i ∧ i ≤ xs.length ∧ Hid (us9.length = i) ∧ Hid (RowsAt wi wq.heap.size A9 c9 us9 (onesL (xs.take i)) ∧ Below wq.heap.size wq wi)) (fun _ _ s37 _ => xs.length - (Lib.intOf s37).toNat)
          case atStart => exact ⟨0, none, 0, [], rfl, rfl, Nat.zero_le _, Lib.hid rfl, Lib.hid ⟨RowsAt.nil, HBm.out⟩⟩
          case round =>
            obtain ⟨i, A10, c10, us10, rfl, rfl, hi, HU, HI⟩ := hrel
            by_cases hli : i < xs.length
            · obtain ⟨x, hx⟩ := getq_ex hli
              obtain ⟨b3, o3, rfl, _, cx⟩ := cellI (ReadL.below HXS.out HI.out.2) hx
              have hwi : IntKind.i64.wrap ((i : Int) + 1) = ((i + 1 : Nat) : Int) := IntWalk.i64_in _ (by have := HSM.out.1; omega)
              have HXx := Lib.hid hx
              have Hw := Lib.hid (with0_any A2' c2' x wr)
              clear hx
              go_wp2_with fail
              refine Hw.out.mono ?_
              rintro e w5 ⟨A3, c3, rfl, hset, hnew, hb5⟩
              obtain ⟨w6, hw6⟩ : ∃ w6, w6 = w5.alloc (.cells #[.slice A3 1 c3] 29) := ⟨_, rfl⟩
              have hb6 : Below w5.heap.size w5 w6 := by rw [hw6]; exact ext_alloc (Below.refl _ _) _
              have HRow : Hid (RowsAt w6 wq.heap.size A10 c10 us10 (onesL (xs.take i))) := Lib.hid (HI.out.1.below (ext_trans hb5 hb6))
              have HSet : Hid (SetAt w6 w6.heap.size (A3, 1, c3) [x]) := Lib.hid ((hset.below hb6).more hb6.size)
              have HNew : Hid ((∀ a, A3 = some a → a.block < w5.heap.size) ∧ Off A10 A3 ∧ (∀ u ∈ us10, ∀ a, u.1 = some a → a.block < w5.heap.size) ∧ w5.heap.size ≤ w6.heap.size) := Lib.hid ⟨fun a ha => (hnew a ha).2, fun a b ha hb' e => by
                have h1 := (OwnL.lt HI.out.1.own a ha).2
                have h2 := (hnew b hb').1
                omega, fun u hu a ha => Nat.lt_of_lt_of_le (HI.out.1.low u hu a ha) hb5.size, hb6.size⟩
              have HBw : Hid (Below wq.heap.size wq w6) := Lib.hid (ext_trans (ext_trans HI.out.2 hb5) hb6)
              have HN2 : Hid (ReadS w6 (w5.heap.size + 1) (some ⟨w5.heap.size, 0, none⟩) [(A3, 1, c3)]) := Lib.hid (by rw [hw6]; exact readR_new w5 (A3, 1, c3))
              have hbase : wq.heap.size ≤ w6.heap.size := HBw.out.size
              have hlen : us10.length + [(A3, 1, c3)].length ≤ 10000000 := by have := HU.out; have := HSM.out.1; simp; omega
              clear hset hnew hb5 hb6
              go_wp2_with (at_builtin; rw [← hw6]; refine wpList_appR rfl (.tmp 41) (.tmp 45) rfl wq.heap.size (l := us10) rfl HRow.out.own (l2 := [(A3, 1, c3)]) rfl HN2.out hlen hbase ?_; intro A4 c4 w7 hown hg hA; clear hw6; have HF := Lib.hid (And.intro hown (And.intro hg hA)); clear hown hg hA)
              have hro := HRow.out.app (v := (A3, 1, c3)) HSet.out HNew.out.1 HNew.out.2.1 HNew.out.2.2.1 HNew.out.2.2.2 HF.out.1 HF.out.2.1 HF.out.2.2
              refine ⟨⟨i + 1, A4, c4, us10 ++ [(A3, 1, c3)], by simp, rfl, hli, Lib.hid (by simp [HU.out]), Lib.hid ⟨?_, ?_⟩⟩, by simp [Lib.intOf]; omega⟩
              · unfold onesL at *
                rw [List.take_add_one, HXx.out, List.map_append]
                exact hro
              · exact ext_app HBw.out HF.out.2.1 fun k hk => (OwnL.block HRow.out.own k hk).1
            · have hie : i = xs.length := by omega
              have HE : Hid (RowsAt wr w.heap.size A10 c10 us10 (onesL xs) ∧ Below ws.heap.size ws wr) := Lib.hid ⟨by
                have := HI.out.1.down (show w.heap.size ≤ wq.heap.size from (ext_trans HB2.out (ext_trans HR.out.2.1 H9.out.2.1)).size)
                rwa [hie, List.take_length] at this, ext_trans H9.out.2.1 HI.out.2⟩
              clear hie
              go_wp2_with fail
              go_roundw
              case rel => exact ⟨1, A10, c10, us10, onesL xs, rfl, rfl, hul0, Lib.hid ⟨HE.out.1, HE.out.2, fun h => absurd h (by decide), fun _ => rfl⟩⟩
              case measure => simp [Lib.intOf]; omega
        · have hj0 : j ≠ 0 := by omega
          have h9 : zss9 = onesL xs := H9.out.2.2.2 hj0
          obtain ⟨wq, hwq⟩ : ∃ wq, wq = wr := ⟨_, rfl⟩
          rw [← hwq] at H9
          have hnd9 : (onesL xs).Nodup := onesL_nodup HSM.out.2
          have hl9' : us9.length ≤ 100000 := by
            rw [H9.out.1.sets.1, h9]
            unfold onesL
            rw [List.length_map]
            have := HSM.out.1
            omega
          have hs9 : ∀ ys ∈ onesL xs, ys.length ≤ 1000000 := fun ys hy => by
            obtain ⟨a, _, rfl⟩ := List.mem_map.1 hy
            simp
          have Hle := Lib.hid (least_any A9 c9 us9 (onesL xs) wq H9.out.1.read (by rw [← h9]; exact H9.out.1.sets) hl9' hs9 hnd9 onesL_less)
          rw [hwq] at Hle
          have HW9 : Hid (Below w2.heap.size w2 wr) := Lib.hid (by rw [← hwq]; exact ext_trans HR.out.2.1 H9.out.2.1)
          have HP : Hid (allP xss = fun zss => Srt zss (onesL xs)) := Lib.hid (by rw [HX.out.1]; rfl)
          clear hj0 h9 hwq hnd9 hl9' hs9
          go_wp2_with fail
          refine Hle.out.mono ?_
          rintro e w8 ⟨A8, c8, us8, zss8, rfl, hrow8, hsrt8, hb8⟩
          have HE : Hid (RowsAt w8 w.heap.size A8 c8 us8 zss8 ∧ Below w2.heap.size w2 w8 ∧ allP xss zss8) := Lib.hid ⟨hrow8.down (ext_trans HB2.out HW9.out).size, ext_trans HW9.out hb8, by rw [HP.out]; exact hsrt8⟩
          clear hrow8 hsrt8 hb8
          go_wp2_with fail
          go_roundw
          case rel => exact ⟨1, A8, c8, us8, zss8, rfl, rfl, hl, Lib.hid ⟨HE.out.1, HE.out.2.1, fun h => absurd h (by decide), fun _ => HE.out.2.2⟩⟩
          case measure => simp [Lib.intOf]; omega
    · have HE : Hid (allP xss zss' ∧ us'.length ≤ 1000) := Lib.hid (by
        have hz : allP xss zss' := by
          by_cases hk0 : k = 0
          · have h2 := HR.out.2.2.1 hk0
            have h3 := HR2.out.2.2
            have : xss = [] := List.eq_nil_of_length_eq_zero (by omega)
            rw [this]
            exact h2
          · exact HR.out.2.2.2 hk0
        refine ⟨hz, ?_⟩
        rw [HR.out.1.sets.1]
        have hsm := HK.out.2.2.2
        cases xss with
        | nil => rw [show zss' = [[]] from hz]; decide
        | cons xs xss =>
          have h2 : Srt zss' (onesL xs) := hz
          rw [h2.perm.length_eq]
          unfold onesL
          rw [List.length_map]
          exact (hsm xs (by simp)).1)
      have hmax : max lim 0 = lim := by omega
      have hle : ¬ (us'.length : Int) > lim := by have := HE.out.2; omega
      have HB3 := Lib.hid (ext_trans HB2.out HR.out.2.1)
      go_wp2_with fail
      go_ret2
      exact ⟨A', c', us', zss', rfl, HR.out.1, HE.out.1, HB3.out⟩
end Go.Proofs.YtmjdhfbnmmdjiaaDoor

/- A set as a text. -/
namespace Go.Proofs.YtmjdhfbnmmdjiaaDoor
open Go.RowKit

/-- The table that AppendInt reads is there. -/
def Tab (w : World) (B : Nat) : Prop := 0 < B ∧ Lib.TabIs Tryd.prog w "internal/strconv.uint64pow10" .u64 Lib.pow10Tab
theorem gTab : Tryd.prog.globalNamed "internal/strconv.uint64pow10" = some 0 := by kernel_rfl
theorem Tab.below {w w' : World} {B : Nat} (h : Tab w B) (hb : Below B w w') : Tab w' B := by
  refine ⟨h.1, ?_⟩
  have h2 := h.2
  unfold Lib.TabIs at h2 ⊢
  rw [← h2]
  unfold World.var?
  rw [gTab]
  simp only [Option.bind_some]
  have := hb.block _ h.1
  simp only [this]
theorem Tab.more {w : World} {B B' : Nat} (h : Tab w B) (hB : B ≤ B') : Tab w B' := ⟨Nat.lt_of_lt_of_le h.1 hB, h.2⟩
theorem Tab.tb {w : World} {B : Nat} (h : Tab w B) : Lib.TabBelow Tryd.prog B w "internal/strconv.uint64pow10" .u64 Lib.pow10Tab := fun _ hb => (h.below hb).2

def encU (c : UInt8) : List Value := [.int .u8 c.toNat]
theorem encU_len (c : UInt8) : (encU c).length = 1 := rfl
theorem encU_one (c : UInt8) : ∀ u ∈ encU c, u.oneCell' = true := by simp [encU, Value.oneCell']
theorem flatMap_encU (l : List UInt8) : l.flatMap encU = Lib.byteCells l := by
  induction l with
  | nil => rfl
  | cons c l ih => rw [List.flatMap_cons, ih]; rfl
abbrev OwnU (w : World) (base : Nat) (A : Option Addr) (cap : Nat) (l : List UInt8) : Prop := OwnL 5 1 encU w base A cap l
theorem infoU : (Tryd.prog.info? 5).map (fun i => (i.zero, i.size, i.bytes)) = some (some (.int .u8 0), 1, 1) := by kernel_rfl
theorem wpList_appU {w : World} {ops : Array Oper} {rest : List Oper} {o : Oper} {a : Act} {Q : Exit → Act → World → Prop} (hgd : o.guard = none) (s x : Operand)
    (ho : o.op = .call { callee := .builtin .append, args := #[s, x], argTypes := #[55, 55] })
    (base : Nat) {A : Option Addr} {cap : Nat} {l : List UInt8} (hs : a.eval s = .slice A l.length cap) (hown : OwnU w base A cap l) {B : Nat} {A2 : Option Addr} {c : Nat} {l2 : List UInt8} (hx : a.eval x = .slice A2 l2.length c) (hr : ReadL 1 encU w B A2 l2)
    (hlen : l.length + l2.length ≤ 100000000) (hbase : base ≤ w.heap.size)
    (h : ∀ A' cap' w', OwnU w' base A' cap' (l ++ l2) → w.grownBy w' ((Value.slice A l.length cap).ownBlock) →
      ((Value.slice A' (l.length + l2.length) cap').ownBlock = (Value.slice A l.length cap).ownBlock ∨ (Value.slice A' (l.length + l2.length) cap').ownBlock = some w.heap.size) → wpList Tryd.prog ops Q rest (a.put o.dst (.slice A' (l.length + l2.length) cap')) w') : wpList Tryd.prog ops Q (o :: rest) a w := by
  obtain ⟨i0, hi, hz0, hz1, hz2⟩ := info_parts infoU
  exact wpList_app w encU_len encU_one hgd s x 55 ho base 5 i0 _ 1 Tryd.underlying55 hi hz0 hz1 hz2 rfl (by decide) hs hown hx hr (by unfold maxLen; omega) (by omega) hbase h
theorem readU_new (w : World) (c : UInt8) : ReadL 1 encU (w.alloc (.cells #[.int .u8 c.toNat] 5)) (w.heap.size + 1) (some ⟨w.heap.size, 0, none⟩) [c] := fun _ => by
  refine ⟨w.heap.size, 0, rfl, by omega, fun i y hy j u hu => ?_⟩
  match i, hy with
  | 0, hy =>
    simp only [List.getElem?_cons_zero, Option.some.injEq] at hy
    subst hy
    match j, hu with
    | 0, hu =>
      simp [encU] at hu
      subst hu
      simp
    | j + 1, hu => simp [encU] at hu
  | i + 1, hy => simp at hy
/-- What a call owns that told of it in the kit's words. -/
theorem ownU_of {w : World} {base n : Nat} {v : Value} {l : List UInt8} (h : w.ownsRow base 5 1 v n (Lib.byteCells l)) (hn : n = l.length) : ∃ A cap, v = .slice A l.length cap ∧ OwnU w base A cap l := by
  subst hn
  rcases h.2 with ⟨hv, hz⟩ | ⟨g, cap, cur, hv, hr⟩
  · exact ⟨none, 0, by rw [hv, hz], ⟨by rw [flatMap_encU]; exact h.1, .inl ⟨by rw [hz], hz⟩⟩⟩
  · exact ⟨some ⟨g, 0, none⟩, cap, hv, ⟨by rw [flatMap_encU]; exact h.1, .inr ⟨g, cap, cur, rfl, by rw [flatMap_encU]; exact hr⟩⟩⟩

/-- AppendInt behind bytes that the call owns. -/
theorem appendInt_any (B : Nat) (i : Int) (h0 : -9223372036854775808 ≤ i) (h1 : i ≤ 9223372036854775807) (A : Option Addr) (cap : Nat) (l : List UInt8) (w : World) (hown : OwnU w B A cap l) (hB : B ≤ w.heap.size) (hlim : l.length + 21 ≤ 140737488355328) (ht : Tab w B) :
    Calls Tryd.prog 29 #[.slice A l.length cap, .int .i64 i, .int .i64 10] w fun e w' => ∃ A' cap', e = .returned (.slice A' (l ++ Lib.itoa i).length cap') ∧ OwnU w' B A' cap' (l ++ Lib.itoa i) ∧ Below B w w' := by
  have hown' : w.ownsRow B 5 1 (.slice A l.length cap) l.length (Lib.byteCells l) := by rw [← flatMap_encU]; exact hown
  refine (Tryd.strconv_AppendInt_10 B l.length i h0 h1 (.slice A l.length cap) (Lib.byteCells l) w hown' hB hlim ht.tb).mono ?_
  rintro e w' ⟨v', rfl, hr, hb, _⟩
  have hr2 : w'.ownsRow B 5 1 v' (l.length + (Lib.itoa i).length) (Lib.byteCells (l ++ Lib.itoa i)) := by
    rw [show Lib.byteCells (l ++ Lib.itoa i) = Lib.byteCells l ++ Lib.byteCells (Lib.itoa i) by simp [Lib.byteCells]]
    exact hr
  obtain ⟨A', cap', rfl, ho⟩ := ownU_of hr2 (by simp)
  exact ⟨A', cap', rfl, ho, hb⟩

/-- Bytes as a text. -/
theorem convU {w : World} {base cap : Nat} {A : Option Addr} {l : List UInt8} (h : OwnU w base A cap l) : (convert 55 9 (.slice A l.length cap)).run Tryd.prog w = .ok (.string ⟨l.toArray⟩) w := by
  have hr := OwnL.read encU_len h
  cases A with
  | none =>
    have hl : l = [] := by
      cases l with
      | nil => rfl
      | cons x l =>
        obtain ⟨_, _, e, _⟩ := hr (by simp)
        cases e
    subst hl
    rw [run_convert_bytes_string w 55 9 5 none _ cap Tryd.underlying55 Tryd.underlying5 Tryd.underlying9]
    rfl
  | some a =>
    refine run_convert_bytes_back w 55 9 5 a cap l Tryd.underlying55 Tryd.underlying5 Tryd.underlying9 fun j hj => ?_
    obtain ⟨b, o, e, _, hc⟩ := hr (fun e => by rw [e] at hj; simp at hj)
    injection e with e
    subst e
    have := hc j l[j] (List.getElem?_eq_getElem hj) 0 _ rfl
    rw [Nat.mul_one, Nat.add_zero] at this
    rw [add_addr]
    exact this

/-- A set's text: each number, and a blank. -/
def keyL (xs : List Int) : List UInt8 := xs.flatMap fun n => Lib.itoa n ++ [32]
def keyB (xs : List Int) : ByteArray := ⟨(keyL xs).toArray⟩
/-- Short numbers. -/
def Sml (xs : List Int) : Prop := ∀ x ∈ xs, (Lib.itoa x).length ≤ 20 ∧ -9223372036854775808 ≤ x ∧ x ≤ 9223372036854775807
theorem keyL_le {xs : List Int} (h : Sml xs) : (keyL xs).length ≤ 21 * xs.length := by
  induction xs with
  | nil => simp [keyL]
  | cons x xs ih =>
    have h1 := (h x (by simp)).1
    have h2 := ih fun y hy => h y (List.mem_cons_of_mem _ hy)
    unfold keyL at *
    rw [List.flatMap_cons, List.length_append, List.length_append, List.length_singleton, List.length_cons]
    omega

set_option maxRecDepth 100000 in
set_option maxHeartbeats 8000000 in
theorem key_any (A : Option Addr) (c : Nat) (xs : List Int) (w : World) (hr : ReadI w w.heap.size A xs) (hl : xs.length ≤ 1000) (hs : Sml xs) (ht : Tab w w.heap.size) :
    Calls Tryd.prog 25 #[.slice A xs.length c] w fun e w' => e = .returned (.string (keyB xs)) ∧ Below w.heap.size w w' := by
  have HR := Lib.hid (And.intro hr (And.intro hs ht))
  clear hr hs ht
  go_enter Tryd.func25, Tryd.ntmps25
  go_upto_region 3 with fail
  go_loopw [3, 5, 8] (fun s3 _ s8 wr => ∃ (i : Nat) (A' : Option Addr) (c' : Nat) (l : List UInt8), s3 = .slice A' l.length c' ∧ s8 = .int .i64 i ∧ i ≤ xs.length ∧ Hid (l = keyL (xs.take i)) ∧ Hid (OwnU wr w.heap.size A' c' l ∧ Below w.heap.size w wr)) (fun _ _ s8 _ => xs.length - (Lib.intOf s8).toNat)
  case atStart => exact ⟨0, none, 0, [], rfl, rfl, Nat.zero_le _, Lib.hid rfl, Lib.hid ⟨OwnL.nil, Below.refl _ _⟩⟩
  case round =>
    obtain ⟨i, A', c', l, rfl, rfl, hi, HE, HW⟩ := hrel
    have HLE : Hid (l.length ≤ 21000) := Lib.hid (by
      have h1 := keyL_le (xs := xs.take i) fun x hx => HR.out.2.1 x (List.mem_of_mem_take hx)
      rw [← HE.out] at h1
      have h2 : (xs.take i).length ≤ 1000 := Nat.le_trans (List.length_take_le' _ _) hl
      omega)
    by_cases hl2 : i < xs.length
    · obtain ⟨x, hx⟩ := getq_ex hl2
      obtain ⟨b, o, rfl, hb, c0⟩ := cellI (ReadL.below HR.out.1 HW.out.2) hx
      have hsx := HR.out.2.1 x (List.mem_of_getElem? hx)
      have Ha := Lib.hid (appendInt_any w.heap.size x hsx.2.1 hsx.2.2 A' c' l wr HW.out.1 HW.out.2.size (by have := HLE.out; omega) (HR.out.2.2.below HW.out.2))
      have HX := Lib.hid (And.intro hx hsx.1)
      have hwi : IntKind.i64.wrap ((i : Int) + 1) = ((i + 1 : Nat) : Int) := IntWalk.i64_in _ (by omega)
      clear hx hsx
      go_wp2_with fail
      refine Ha.out.mono ?_
      rintro e w1 ⟨A2, c2, rfl, hown2, hb2⟩
      obtain ⟨l2, hl2d⟩ : ∃ l2, l2 = l ++ Lib.itoa x := ⟨_, rfl⟩
      rw [← hl2d] at hown2 ⊢
      obtain ⟨w2, hw2⟩ : ∃ w2, w2 = w1.alloc (.cells #[.int .u8 32] 5) := ⟨_, rfl⟩
      have HN : Hid (ReadL 1 encU w2 (w1.heap.size + 1) (some ⟨w1.heap.size, 0, none⟩) [(32 : UInt8)]) := Lib.hid (by rw [hw2]; exact readU_new w1 32)
      have HO : Hid (OwnU w2 w.heap.size A2 c2 l2 ∧ Below w.heap.size w w2) := Lib.hid (by rw [hw2]; exact ⟨OwnL.alloc hown2 _, ext_alloc (HW.out.2.trans hb2) _⟩)
      have hlen : l2.length + [(32 : UInt8)].length ≤ 100000000 := by
        have h1 := HLE.out
        have h2 := HX.out.2
        rw [hl2d, List.length_append]
        simp
        omega
      have hbase : w.heap.size ≤ w2.heap.size := HO.out.2.size
      have HL2 := Lib.hid hl2d
      clear hown2 hb2 hl2d
      go_wp2_with (at_builtin; rw [← hw2]; refine wpList_appU rfl (.tmp 14) (.tmp 15) rfl w.heap.size (l := l2) rfl HO.out.1 (l2 := [(32 : UInt8)]) rfl HN.out hlen hbase ?_; intro A4 c4 w4 hown hg _; clear hw2; have HF := Lib.hid (And.intro hown hg); clear hown hg)
      refine ⟨⟨i + 1, A4, c4, l2 ++ [32], by simp, rfl, hl2, Lib.hid ?_, Lib.hid ⟨HF.out.1, ext_app HO.out.2 HF.out.2 fun k hk => (OwnL.block HO.out.1 k hk).1⟩⟩, by simp [Lib.intOf]; omega⟩
      rw [HL2.out, HE.out, List.append_assoc]
      unfold keyL
      rw [List.take_add_one, HX.out.1, List.flatMap_append]
      simp
    · have hcv := convU HW.out.1
      have HK : Hid (l = keyL xs) := Lib.hid (by
        have := HE.out
        rwa [List.take_of_length_le (by omega)] at this)
      go_wp2_with fail
      go_ret
      exact ⟨by rw [show keyB xs = ⟨l.toArray⟩ by unfold keyB; rw [HK.out]]; rfl, HW.out.2⟩
end Go.Proofs.YtmjdhfbnmmdjiaaDoor

/- Whether a set fits: the closures of Maximal. -/
namespace Go.Proofs.YtmjdhfbnmmdjiaaDoor
open Go.RowKit

set_option maxRecDepth 100000 in
set_option maxHeartbeats 8000000 in
theorem max111_any (x : Int) (bt : Nat) (B : Option Addr) (d : Nat) (ys : List Int) (w : World) (hbx : BoxS w bt B ys.length d) (hy : ReadI w w.heap.size B ys) (hm : ys.length ≤ 1000000) :
    Calls Tryd.prog 15 #[.int .i64 x, .pointer (some ⟨bt, 0, none⟩)] w fun e w' => e = .returned (.bool (!ys.contains x)) ∧ Below w.heap.size w w' := by
  have H := Lib.hid (contI_any B d ys x w hy hm)
  have c0 := hbx.1
  clear hbx hy hm
  go_enter Tryd.func15, Tryd.ntmps15
  go_wp2_with fail
  refine H.out.mono ?_
  rintro e w1 ⟨rfl, rfl⟩
  go_wp2_with fail
  go_ret
  exact ⟨ret_bool (by simp), Below.refl _ _⟩

theorem eg_max111 : ∀ args w, (callFunc 15 args).run Tryd.prog w = .ok (.enter 15 args) w := fun _ _ => by kernel_rfl
theorem eg_max11 : ∀ args w, (callFunc 13 args).run Tryd.prog w = .ok (.enter 13 args) w := fun _ _ => by kernel_rfl
set_option maxRecDepth 100000 in
set_option maxHeartbeats 8000000 in
theorem max11_any (v : Option Addr × Nat × Nat) (b : List Int) (bs : Nat) (B : Option Addr) (d : Nat) (s : List Int) (w : World) (hv : SetAt w w.heap.size v b) (hbx : BoxS w bs B s.length d) (hs : ReadI w w.heap.size B s) (hl : b.length ≤ 1000000) (hm : s.length ≤ 1000000) :
    Calls Tryd.prog 13 #[.slice v.1 v.2.1 v.2.2, .pointer (some ⟨bs, 0, none⟩)] w fun e w' => e = .returned (.bool (partB b s)) ∧ Below w.heap.size w w' := by
  have hmf : ∀ (fn : Fn) (first cap : Array Value) (w : World), (Instr.makeFunc fn first cap).run Tryd.prog w = .ok (.func fn first cap) w := fun _ _ _ _ => rfl
  have H := Lib.hid (consI_any 15 (.pointer (some ⟨bs, 0, none⟩)) eg_max111 (fun x => !s.contains x) v.1 v.2.2 b w hv.r hl fun x _ w' hb => max111_any x bs B d s w' (hbx.later hb) (ReadL.more (ReadL.below hs hb) hb.size) hm)
  rw [hv.n]
  clear hv hbx hs hl hm
  go_enter Tryd.func13, Tryd.ntmps13
  go_wp2_with fail
  refine H.out.mono ?_
  rintro e w2 ⟨rfl, hb⟩
  go_wp2_with fail
  go_ret
  exact ⟨ret_bool (by unfold partB; simp), hb⟩

/-- Does a set fit? -/
def fitsB (bads : List (List Int)) (s : List Int) : Bool := !(List.range bads.length).any fun j => partB (setQ bads j) s

/-- What a box holds, and what it leads to, all below B. -/
def FitsAt (w : World) (B bb : Nat) (bads : List (List Int)) : Prop := ∃ (A : Option Addr) (c : Nat) (vs : List (Option Addr × Nat × Nat)), w.cell? ⟨bb, 0, none⟩ = some (.slice A vs.length c) ∧ bb < B ∧ B ≤ w.heap.size ∧ ReadS w B A vs ∧ SetsAt w B vs bads ∧ vs.length ≤ 100000 ∧ ∀ xs ∈ bads, xs.length ≤ 1000000
theorem FitsAt.low {w w' : World} {B bb : Nat} {bads : List (List Int)} (h : FitsAt w B bb bads) (hb : Below B w w') : FitsAt w' B bb bads := by
  obtain ⟨A, c, vs, h1, h2, h3, h4, h5, h6⟩ := h
  exact ⟨A, c, vs, (hb.cell (p := ⟨bb, 0, none⟩) h2).trans h1, h2, Nat.le_trans h3 hb.size, ReadL.below h4 hb, h5.below hb, h6⟩
theorem FitsAt.later {w w' : World} {B bb : Nat} {bads : List (List Int)} (h : FitsAt w B bb bads) (hb : Below w.heap.size w w') : FitsAt w' B bb bads := by
  have h3 : B ≤ w.heap.size := h.elim fun A h => h.elim fun c h => h.elim fun vs h => h.2.2.1
  exact h.low (hb.mono h3)

set_option maxRecDepth 100000 in
set_option maxHeartbeats 8000000 in
theorem max1_any (v : Option Addr × Nat × Nat) (s : List Int) (bb : Nat) (bads : List (List Int)) (w : World) (hv : SetAt w w.heap.size v s) {B0 : Nat} (hf : FitsAt w B0 bb bads) (hm : s.length ≤ 1000000) :
    Calls Tryd.prog 11 #[.slice v.1 v.2.1 v.2.2, .pointer (some ⟨bb, 0, none⟩)] w fun e w' => e = .returned (.bool (fitsB bads s)) ∧ Below w.heap.size w w' := by
  have hmf : ∀ (fn : Fn) (first cap : Array Value) (w : World), (Instr.makeFunc fn first cap).run Tryd.prog w = .ok (.func fn first cap) w := fun _ _ _ _ => rfl
  obtain ⟨A, c, us, hbx0, hbB, hBw, hr0, hS0, hl, hsm⟩ := hf
  have hbx : BoxS w bb A us.length c := ⟨hbx0, Nat.lt_of_lt_of_le hbB hBw⟩
  have hr : ReadS w w.heap.size A us := ReadL.more hr0 hBw
  have hS : SetsAt w w.heap.size us bads := hS0.more hBw
  clear hbx0 hbB hBw hr0 hS0
  rw [hv.n]
  obtain ⟨w1, hw1⟩ : ∃ w1, w1 = w.alloc (.cells #[.slice v.1 s.length v.2.2] 29) := ⟨_, rfl⟩
  have hb1 : Below w.heap.size w w1 := by rw [hw1]; exact ext_alloc (Below.refl _ _) _
  have hbox : BoxS w1 w.heap.size v.1 s.length v.2.2 := by rw [hw1]; exact ⟨by simp, by simp⟩
  have c0 := (hbx.later hb1).1
  have H := Lib.hid (consS_any 13 (.pointer (some ⟨w.heap.size, 0, none⟩)) eg_max11 (fun j => partB (setQ bads j) s) A c us w1 ((ReadL.below hr hb1).more hb1.size) (by omega) fun i u hu w' hb => by
    obtain ⟨xs, hx⟩ := getq_ex (show i < bads.length by rw [← hS.1]; exact getq_lt hu)
    have hb' : Below w.heap.size w w' := ext_trans hb1 hb
    have h1 := ((hS.2 i u xs hu hx).below hb').more hb'.size
    rw [setQ_at hx]
    exact max11_any u xs w.heap.size v.1 v.2.2 s w' h1 (hbox.later hb) (ReadL.more (ReadL.below hv.r hb') hb'.size) (hsm xs (List.mem_of_getElem? hx)) hm)
  have HB := Lib.hid hb1
  have HN := Lib.hid hS.1
  clear hv hbx hr hS hl hsm hm hbox hb1
  go_enter Tryd.func11, Tryd.ntmps11
  go_upto_region 1 with fail
  rw [← hw1]
  clear hw1
  go_wp2_with fail
  refine H.out.mono ?_
  rintro e w2 ⟨rfl, hb⟩
  go_wp2_with fail
  go_ret
  exact ⟨ret_bool (by unfold fitsB; rw [HN.out]), ext_trans HB.out hb⟩
end Go.Proofs.YtmjdhfbnmmdjiaaDoor
