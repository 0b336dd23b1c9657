/- TyMakes's law, walked. -/
import Derived.Test.YtblfeokjlecgkaaDoorMem
import Derived.Test.YtblfeokjlecgkaaDoorRowR
import Derived.Test.YtblfeokjlecgkaaDoorRRight
import Derived.Deep.RegionHeld3
namespace Go.Proofs.YtblfeokjlecgkaaDoor
open Go.RowKit

theorem rRow_any (L V : Option Addr) (cl cv : Nat) (kind : Int) (ls : List ByteArray) (vs : List (Option Addr × Nat × Nat)) (xss : List (List Nd)) (w : World) (hL : ReadT w w.heap.size L ls) (hV : ReadS w w.heap.size V vs) (hS : Sls w w.heap.size vs xss)
    (hne : ∀ xs ∈ xss, xs ≠ [] ∧ xs.length ≤ 100000) (hsz : ∀ s ∈ ls, s.size ≤ 9223372036854775807) :
    Calls Tryd.prog 14 #[.int .i64 kind, .slice L ls.length cl, .slice V vs.length cv] w (RowPost kind ls xss w) := by
  have bad : (isRowB kind = false ∨ (isRowB kind = true ∧ (ls.length ≠ vs.length ∨ (ls.length = vs.length ∧ (50 < vs.length ∨ (kind = 7 ∧ vs.length = 0)))))) → badRow kind ls xss.length = true →
      Calls Tryd.prog 14 #[.int .i64 kind, .slice L ls.length cl, .slice V vs.length cv] w (RowPost kind ls xss w) := fun h hb => by
    refine (rRow_no L V ls.length vs.length cl cv kind w h).mono ?_
    rintro e w' ⟨rfl, rfl⟩
    exact ⟨Below.refl _ _, .inl ⟨hb, rfl⟩⟩
  by_cases hr : isRowB kind = true
  · by_cases hl : ls.length = xss.length
    · by_cases h50 : 50 < xss.length
      · exact bad (.inr ⟨hr, .inr ⟨by rw [hS.1]; exact hl, .inl (by rw [hS.1]; exact h50)⟩⟩) (by unfold badRow; simp [h50])
      · by_cases h7 : kind = 7 ∧ xss.length = 0
        · exact bad (.inr ⟨hr, .inr ⟨by rw [hS.1]; exact hl, .inr ⟨h7.1, by rw [hS.1]; exact h7.2⟩⟩⟩) (by unfold badRow; simp [h7.1, h7.2])
        · exact rRow_some L V cl cv kind ls vs xss w hL hV hS hne hsz hr hl (by omega) (fun hk h0 => h7 ⟨hk, h0⟩)
    · exact bad (.inr ⟨hr, .inl (by rw [hS.1]; exact hl)⟩) (by unfold badRow; simp [hl])
  · exact bad (.inl (by simpa using hr)) (by unfold badRow; simp [hr])

theorem sorted_one {ls : List ByteArray} {n : Nat} {os os' : List Nat} (h1 : os.Perm (List.range n)) (h2 : os'.Perm (List.range n)) (p1 : os.Pairwise fun i j => ltB (lab ls i) (lab ls j) = true) (p2 : os'.Pairwise fun i j => ltB (lab ls i) (lab ls j) = true) : os = os' :=
  List.Perm.eq_of_pairwise (le := fun i j => ltB (lab ls i) (lab ls j) = true) (fun i j _ _ h k => by rw [ltB_asymm h] at k; cases k) p1 p2 (h1.trans h2.symm)

theorem sorted_nodup {ls : List ByteArray} {os : List Nat} (h : os.Perm (List.range ls.length)) (p : os.Pairwise fun i j => ltB (lab ls i) (lab ls j) = true) : ls.Nodup := by
  refine List.pairwise_iff_getElem.2 fun i j hi hj hij he => ?_
  have hio : i ∈ os := (h.mem_iff).2 (List.mem_range.2 hi)
  have hjo : j ∈ os := (h.mem_iff).2 (List.mem_range.2 hj)
  obtain ⟨a, ha, hae⟩ := List.getElem_of_mem hio
  obtain ⟨b, hb, hbe⟩ := List.getElem_of_mem hjo
  have hp := List.pairwise_iff_getElem.1 p
  have hlab : lab ls i = lab ls j := by rw [lab_get hi, lab_get hj, he]
  rcases Nat.lt_trichotomy a b with hlt | heq | hlt
  · have := hp a b ha hb hlt
    rw [hae, hbe, hlab, ltB_irrefl] at this
    cases this
  · subst heq
    omega
  · have := hp b a hb ha hlt
    rw [hae, hbe, hlab, ltB_irrefl] at this
    cases this

/-- The program's row and the document's are one: what they answer, and that what is told stands. -/
def SameRow (P Q : Value × Int) (w : World) : Prop := ∃ (A B : Option Addr) (ca cb : Nat) (xs : List Nd) (n : Int), P = (.slice A xs.length ca, n) ∧ Q = (.slice B xs.length cb, n) ∧ TyA w w.heap.size A xs ∧ TyA w w.heap.size B xs ∧ xs.length ≤ 9223372036854775807

/-- What stands in TyMakes. -/
structure GMk (w0 : World) (kind : Int) (L V : Option Addr) (cl cv : Nat) (ls : List ByteArray) (vs : List (Option Addr × Nat × Nat)) (xss : List (List Nd)) (g : Nat) (w : World) : Prop where
  ext : Below w0.heap.size w0 w
  c0 : w.cell? ⟨g, 0, none⟩ = some (.int .i64 kind)
  c1 : w.cell? ⟨g, 1, none⟩ = some (.slice L ls.length cl)
  c2 : w.cell? ⟨g, 2, none⟩ = some (.slice V vs.length cv)
  gl : g < w.heap.size
  lab : ReadT w w.heap.size L ls
  sl : ReadS w w.heap.size V vs
  ty : Sls w w.heap.size vs xss
  tab : Tab w w.heap.size

theorem GMk.step {w0 w w' : World} {kind : Int} {L V : Option Addr} {cl cv g : Nat} {ls : List ByteArray} {vs : List (Option Addr × Nat × Nat)} {xss : List (List Nd)} (h : GMk w0 kind L V cl cv ls vs xss g w) (hb : Below w.heap.size w w') : GMk w0 kind L V cl cv ls vs xss g w' :=
  ⟨ext_trans h.ext hb, (hb.cell (p := ⟨g, 0, none⟩) h.gl).trans h.c0, (hb.cell (p := ⟨g, 1, none⟩) h.gl).trans h.c1, (hb.cell (p := ⟨g, 2, none⟩) h.gl).trans h.c2, Nat.lt_of_lt_of_le h.gl hb.size,
    (h.lab.below hb).more hb.size, (h.sl.below hb).more hb.size, ⟨h.ty.1, fun i v xs hv hx => ⟨(h.ty.2 i v xs hv hx).1, ((h.ty.2 i v xs hv hx).2.below hb).more hb.size⟩⟩, (h.tab.below hb).more hb.size⟩

theorem GMk.start {w : World} {kind : Int} {L V : Option Addr} {cl cv : Nat} {ls : List ByteArray} {vs : List (Option Addr × Nat × Nat)} {xss : List (List Nd)} (hL : ReadT w w.heap.size L ls) (hV : ReadS w w.heap.size V vs) (hS : Sls w w.heap.size vs xss) (ht : Tab w w.heap.size) (t : TypeId) :
    GMk w kind L V cl cv ls vs xss w.heap.size (w.alloc (.cells #[.int .i64 kind, .slice L ls.length cl, .slice V vs.length cv] t)) := by
  have hb := ext_alloc (Below.refl w.heap.size w) (.cells #[.int .i64 kind, .slice L ls.length cl, .slice V vs.length cv] t)
  exact ⟨hb, by simp, by simp, by simp, by simp, (hL.below hb).more hb.size, (hV.below hb).more hb.size, ⟨hS.1, fun i v xs hv hx => ⟨(hS.2 i v xs hv hx).1, ((hS.2 i v xs hv hx).2.below hb).more hb.size⟩⟩, (ht.below hb).more hb.size⟩

/-- What can be told of the two answers. -/
theorem row_both {kind : Int} {ls : List ByteArray} {xss : List (List Nd)} {w w1 w2 w3 : World} {e f : Ending} (hp : RowPost kind ls xss w e w1) (hb : Below w1.heap.size w1 w2) (hr : RowPost kind ls xss w2 f w3) :
    ∃ (A B : Option Addr) (ca cb : Nat) (xs : List Nd) (n : Int), e = .returned (.tuple #[.slice A xs.length ca, .int .i64 n]) ∧ f = .returned (.tuple #[.slice B xs.length cb, .int .i64 n]) ∧ TyA w3 w3.heap.size A xs ∧ TyA w3 w3.heap.size B xs ∧ xs.length ≤ 9223372036854775807 := by
  obtain ⟨hb1, h1⟩ := hp
  obtain ⟨hb3, h3⟩ := hr
  have hlen : badRow kind ls xss.length = false → ls.length = xss.length := fun h => by
    unfold badRow at h
    simp only [Bool.or_eq_false_iff, Bool.not_eq_false', decide_eq_true_eq] at h
    exact h.1.1.1.2
  rcases h1 with ⟨b1, rfl⟩ | ⟨b1, n1, rfl⟩ | ⟨b1, os, A, ca, p1, q1, rfl, o1⟩ <;> rcases h3 with ⟨b3, rfl⟩ | ⟨b3, n3, rfl⟩ | ⟨b3, os', B, cb, p3, q3, rfl, o3⟩
  · exact ⟨none, none, 0, 0, [], 1, rfl, rfl, TyA.nil, TyA.nil, by simp⟩
  · rw [b1] at b3; cases b3
  · rw [b1] at b3; cases b3
  · rw [b1] at b3; cases b3
  · exact ⟨none, none, 0, 0, [], 7, rfl, rfl, TyA.nil, TyA.nil, by simp⟩
  · rw [← hlen b1] at p3; exact absurd (sorted_nodup p3 q3) n1
  · rw [b1] at b3; cases b3
  · rw [← hlen b1] at p1; exact absurd (sorted_nodup p1 q1) n3
  · have := sorted_one p1 p3 q1 q3
    subst this
    exact ⟨A, B, ca, cb, _, 0, rfl, rfl, ((((OwnL.tyA o1).below hb).more hb.size).below hb3).more hb3.size, OwnL.tyA o3, by obtain ⟨_, _, _, _, h1, h2⟩ := OwnL.form o3 (by simp [rowN]); omega⟩

theorem rowPost_below {kind : Int} {ls : List ByteArray} {xss : List (List Nd)} {w w1 : World} {e : Ending} (h : RowPost kind ls xss w e w1) : Below w.heap.size w w1 := h.1

/-- A row's answer is a pair. -/
theorem rowPost_pair {kind : Int} {ls : List ByteArray} {xss : List (List Nd)} {w w1 : World} {e : Ending} (h : RowPost kind ls xss w e w1) :
    ∃ (A : Option Addr) (ca m : Nat) (n : Int), e = .returned (.tuple #[.slice A m ca, .int .i64 n]) := by
  rcases h.2 with ⟨_, rfl⟩ | ⟨_, _, rfl⟩ | ⟨_, os, A, ca, _, _, rfl, _⟩
  · exact ⟨_, _, _, _, rfl⟩
  · exact ⟨_, _, _, _, rfl⟩
  · exact ⟨_, _, _, _, rfl⟩

set_option maxRecDepth 100000 in
set_option maxHeartbeats 8000000 in
theorem tyMakes_law (L V : Option Addr) (cl cv : Nat) (kind : Int) (ls : List ByteArray) (vs : List (Option Addr × Nat × Nat)) (xss : List (List Nd)) (w : World) (hL : ReadT w w.heap.size L ls) (hV : ReadS w w.heap.size V vs) (hS : Sls w w.heap.size vs xss)
    (hll : ls.length ≤ 9223372036854775807) (hvl : vs.length ≤ 9223372036854775807) (hxl : ∀ xs ∈ xss, xs.length ≤ 9223372036854775807 ∧ ∀ x ∈ xs, x.Ok) (hsz : ∀ s ∈ ls, s.size ≤ 9223372036854775807) (ht : Tab w w.heap.size) :
    Calls Tryd.prog 3 #[.agg #[.int .i64 kind, .slice L ls.length cl, .slice V vs.length cv]] w fun e w' => e = .returned (.bool true) ∧ Below w.heap.size w w' := by
  have G := Lib.hid (GMk.start (kind := kind) (cl := cl) (cv := cv) hL hV hS ht 25)
  have Hxl := Lib.hid hxl
  have Hsz := Lib.hid hsz
  have HSl := Lib.hid hS.1
  have gl := G.out.gl
  have c0 := G.out.c0
  have c1 := G.out.c1
  have c2 := G.out.c2
  generalize hW : w.alloc (.cells #[.int .i64 kind, .slice L ls.length cl, .slice V vs.length cv] 25) = W at *
  generalize hg : w.heap.size = g at *
  have Hg := Lib.hid hg
  clear hL hV hS hxl hsz ht
  by_cases h60 : vs.length ≤ 60
  · have d60 : decide ((60 : Int) < (vs.length : Int)) = false := by simp; omega
    by_cases h61 : ls.length ≤ 60
    · have d61 : decide ((60 : Int) < (ls.length : Int)) = false := by simp; omega
      go_enter Tryd.func3, Tryd.ntmps3
      go_wp2_with fail
      clear hW hg c0 c1 c2 gl
      go_loopw [3] (fun s3 wr => ∃ k : Nat, s3 = .int .i64 k ∧ k ≤ vs.length ∧ Hid (GMk w kind L V cl cv ls vs xss g wr) ∧ Hid (∀ j xs, j < k → xss[j]? = some xs → namedB xs = true ∧ rRightB xs = true)) (fun s3 _ => vs.length - (intOf s3).toNat)
      case atStart => exact ⟨0, rfl, Nat.zero_le _, G, Lib.hid fun j xs h => by omega⟩
      case round =>
        clear G
        obtain ⟨k, rfl, hk, G, hall⟩ := hrel
        have gl := G.out.gl
        have c0 := G.out.c0
        have c1 := G.out.c1
        have c2 := G.out.c2
        by_cases hlt : k < vs.length
        · obtain ⟨v, hv⟩ := getq_ex hlt
          obtain ⟨xs, hxs⟩ := getq_ex (show k < xss.length by rw [← HSl.out]; exact hlt)
          obtain ⟨hv1, hta⟩ := G.out.ty.2 k v xs hv hxs
          obtain ⟨hxl, hxo⟩ := Hxl.out xs (List.mem_of_getElem? hxs)
          have Hxo := Lib.hid fun x hx => (hxo x hx).s1
          have Hxs := Lib.hid hxs
          obtain ⟨vb, vo, rfl, hvb, hvc⟩ := ReadL.slice G.out.sl hv
          rw [hv1] at hvc
          clear hv hxs hv1 hxo
          go_wp2_with fail
          refine (named_any v.1 v.2.2 _ xs _ hta hxl).mono ?_
          rintro e w' ⟨rfl, rfl⟩
          cases hn : namedB xs
          · go_wp2_with fail
            refine (alive_any _ G.out.tab).mono ?_
            rintro e w9 ⟨rfl, hb⟩
            replace G := Lib.hid (G.out.step hb)
            clear hb
            go_wp2_with fail
            go_ret
            exact ⟨rfl, by rw [← Hg.out]; exact G.out.ext⟩
          · have Hn := Lib.hid hn
            clear hn
            go_wp2_with fail
            refine (rRight_any v.1 v.2.2 xs _ hta hxl Hxo.out).mono ?_
            rintro e w1 ⟨rfl, hb⟩
            replace G := Lib.hid (G.out.step hb)
            clear hb c0 c1 c2 gl hvc hta hvb
            cases hr : rRightB xs
            · go_wp2_with fail
              refine (alive_any _ G.out.tab).mono ?_
              rintro e w9 ⟨rfl, hb⟩
              replace G := Lib.hid (G.out.step hb)
              clear hb
              go_wp2_with fail
              go_ret
              exact ⟨rfl, by rw [← Hg.out]; exact G.out.ext⟩
            · have Hr := Lib.hid hr
              clear hr
              go_wp2_with fail
              go_roundw
              case rel => exact ⟨k + 1, by go_num, hlt, G, Lib.hid fun j ys hj hy => by
                by_cases hjk : j = k
                · subst hjk
                  rw [Hxs.out] at hy
                  injection hy with hy
                  rw [← hy]
                  exact ⟨Hn.out, Hr.out⟩
                · exact hall.out j ys (by omega) hy⟩
              case measure => simp [intOf]; omega
        · have Hall : Hid (∀ xs ∈ xss, namedB xs = true ∧ rRightB xs = true) := Lib.hid fun xs hx => by
            obtain ⟨j, hj, hjx⟩ := List.getElem_of_mem hx
            exact hall.out j xs (by have := HSl.out; omega) (by rw [List.getElem?_eq_getElem hj, hjx])
          clear hall
          go_wp2_with fail
          go_loop [4] (fun s4 => ∃ k : Nat, s4 = .int .i64 k ∧ k ≤ ls.length) (fun s4 => ls.length - (intOf s4).toNat)
          case atStart => exact ⟨0, rfl, Nat.zero_le _⟩
          case round =>
            clear hlt
            obtain ⟨k2, rfl, hk2⟩ := hrel
            by_cases hlt : k2 < ls.length
            · obtain ⟨s, hs⟩ := getq_ex hlt
              obtain ⟨lb, lo, rfl, hlb, hlc⟩ := ReadL.str G.out.lab hs
              clear hs
              by_cases h200 : s.size ≤ 200
              · have h200i : ¬ (200 : Int) < (s.size : Int) := by omega
                go_wp2_with fail
                go_round
                case rel => exact ⟨k2 + 1, by go_num, hlt⟩
                case measure => simp [intOf]; omega
              · have h200i : (200 : Int) < (s.size : Int) := by omega
                go_wp2_with fail
                refine (alive_any _ G.out.tab).mono ?_
                rintro e w9 ⟨rfl, hb⟩
                replace G := Lib.hid (G.out.step hb)
                clear hb
                go_wp2_with fail
                go_ret
                exact ⟨rfl, by rw [← Hg.out]; exact G.out.ext⟩
            · have Hne : Hid (∀ xs ∈ xss, xs ≠ [] ∧ xs.length ≤ 100000) := Lib.hid fun xs hx => by
                have hi := isT_of (by rw [← right_eq]; exact (Hall.out xs hx).2 : rightB xs = true)
                exact ⟨hi.ne, by have := hi.len; omega⟩
              go_wp2_with fail
              refine (row_any L V cl cv kind ls vs xss _ G.out.lab G.out.sl G.out.ty Hne.out (by omega)).mono ?_
              rintro e w2 hp
              have Hp := Lib.hid hp
              obtain ⟨A, ca, m, n, rfl⟩ := rowPost_pair hp
              clear hp c0 c1 c2 gl
              replace G := Lib.hid (G.out.step (rowPost_below Hp.out))
              have gl := G.out.gl
              have c0 := G.out.c0
              have c1 := G.out.c1
              have c2 := G.out.c2
              go_wp2_with fail
              refine (rRow_any L V cl cv kind ls vs xss _ G.out.lab G.out.sl G.out.ty Hne.out Hsz.out).mono ?_
              rintro e w3 hp
              have Hq := Lib.hid hp
              clear hp
              obtain ⟨A', B', ca', cb', xs, n', he, rfl, htA, htB, hxs⟩ := row_both Hp.out (Below.refl _ _) Hq.out
              simp only [Ending.returned.injEq, Value.tuple.injEq, Array.mk.injEq, List.cons.injEq, Value.slice.injEq, Value.int.injEq, and_true, true_and] at he
              obtain ⟨⟨rfl, rfl, rfl⟩, rfl⟩ := he
              clear c0 c1 c2 gl Hp
              replace G := Lib.hid (G.out.step (rowPost_below Hq.out))
              clear Hq
              have gl := G.out.gl
              have c0 := G.out.c0
              have c1 := G.out.c1
              have c2 := G.out.c2
              go_wp2_with fail
              refine (one_any A B' ca cb' _ _ xs xs _ htA htB hxs).mono ?_
              rintro e w4 ⟨rfl, n4, rfl⟩
              rw [show decide (xs = xs) = true from decide_eq_true rfl]
              clear c0 c1 c2 gl htA htB
              replace G := Lib.hid (G.out.step (ext_drewN (Below.refl _ _) n4))
              have gl := G.out.gl
              have c0 := G.out.c0
              have c1 := G.out.c1
              have c2 := G.out.c2
              by_cases h2 : vs.length < 2
              · have h2i : (vs.length : Int) < 2 := by omega
                go_wp2_with fail
                refine (alive_any _ G.out.tab).mono ?_
                rintro e w9 ⟨rfl, hb⟩
                replace G := Lib.hid (G.out.step hb)
                clear hb
                go_wp2_with fail
                go_ret
                exact ⟨rfl, by rw [← Hg.out]; exact G.out.ext⟩
              · have h2i : ¬ (vs.length : Int) < 2 := by omega
                have hb0 : 0 < vs.length := by omega
                have hb1 : 1 < vs.length := by omega
                have hb0i : (0 : Int) < (vs.length : Int) := by omega
                have hb1i : (1 : Int) < (vs.length : Int) := by omega
                obtain ⟨v0, hv0⟩ := getq_ex (show 0 < vs.length by omega)
                obtain ⟨v1, hv1⟩ := getq_ex (show 1 < vs.length by omega)
                obtain ⟨x0, hx0⟩ := getq_ex (show 0 < xss.length by rw [← HSl.out]; omega)
                obtain ⟨x1, hx1⟩ := getq_ex (show 1 < xss.length by rw [← HSl.out]; omega)
                have hn0 := (named_parts (Hall.out x0 (List.mem_of_getElem? hx0)).1).1
                have hn1 := (named_parts (Hall.out x1 (List.mem_of_getElem? hx1)).1).1
                have hl0 := (G.out.ty.2 0 v0 x0 hv0 hx0).1
                have hl1 := (G.out.ty.2 1 v1 x1 hv1 hx1).1
                obtain ⟨vb, vo, rfl, hvb, hvc⟩ := ReadL.slice G.out.sl hv0
                have SS : Hid (∀ v, GMk w kind L (some ⟨vb, vo, none⟩) cl cv ls vs xss g v → v.cell? ⟨g, 2, none⟩ = some (.slice (some ⟨vb, vo, none⟩) vs.length cv) ∧ v.cell? ⟨vb, vo, none⟩ = some (.slice v0.1 x0.length v0.2.2) ∧ v.cell? ⟨vb, vo + 1, none⟩ = some (.slice v1.1 x1.length v1.2.2) ∧ GMk w kind L (some ⟨vb, vo, none⟩) cl cv ls vs xss g v) := Lib.hid fun v h => by
                  obtain ⟨_, _, e0, _, k0⟩ := ReadL.slice h.sl hv0
                  obtain ⟨_, _, e1, _, k1⟩ := ReadL.slice h.sl hv1
                  simp only [Option.some.injEq, Addr.mk.injEq, and_true] at e0 e1
                  obtain ⟨rfl, rfl⟩ := e0
                  obtain ⟨rfl, rfl⟩ := e1
                  rw [hl0, Nat.add_zero] at k0
                  rw [hl1] at k1
                  exact ⟨h.c2, k0, k1, h⟩
                have T0 : Hid (∀ v, GMk w kind L (some ⟨vb, vo, none⟩) cl cv ls vs xss g v → TyA v v.heap.size v0.1 x0) := Lib.hid fun v h => (h.ty.2 0 v0 x0 hv0 hx0).2
                have T1 : Hid (∀ v, GMk w kind L (some ⟨vb, vo, none⟩) cl cv ls vs xss g v → TyA v v.heap.size v1.1 x1) := Lib.hid fun v h => (h.ty.2 1 v1 x1 hv1 hx1).2
                clear hv0 hv1 hx0 hx1 hl0 hl1 hvc hvb c0 c1
                go_wp2_with fail
                go_region_held3 (fun v => v.cell? ⟨g, 2, none⟩ = some (.slice (some ⟨vb, vo, none⟩) vs.length cv) ∧ v.cell? ⟨vb, vo, none⟩ = some (.slice v0.1 x0.length v0.2.2) ∧ v.cell? ⟨vb, vo + 1, none⟩ = some (.slice v1.1 x1.length v1.2.2) ∧ GMk w kind L (some ⟨vb, vo, none⟩) cl cv ls vs xss g v)
                  (first
                    | exact SS.out _ (GMk.step G.out (Below.refl _ _).drew)
                    | exact SS.out _ G5.out
                    | exact SS.out _ (GMk.step G5.out hbp)
                    | exact SS.out _ (GMk.step G5.out hbq)
                    | exact SS.out _ (GMk.step (GMk.step G5.out hbp) hbq)
                    | exact SS.out _ (GMk.step (GMk.step G5.out hbq) hbp)
                    | exact SS.out _ (GMk.step (GMk.step (GMk.step G5.out hbp) hbq) hbo)
                    | exact SS.out _ (GMk.step (GMk.step (GMk.step G5.out hbq) hbp) hbo))
                  (first
                    | (go_at_call 10; refine (alive_any _ (GMk.tab (GMk.step G.out (Below.refl _ _).drew))).mono ?_; rintro e w5 ⟨rfl, hb5⟩; have G5 := Lib.hid (GMk.step (GMk.step G.out (Below.refl _ _).drew) hb5))
                    | (go_at_call 16; refine (pArrow_any v0.1 v1.1 v0.2.2 v1.2.2 x0 x1 _ (T0.out _ G5.out) (T1.out _ G5.out) (by omega)).mono ?_; rintro e wp ⟨Ap, cp, rfl, hop, hbp⟩)
                    | (go_at_call 16; refine (pArrow_any v0.1 v1.1 v0.2.2 v1.2.2 x0 x1 _ (T0.out _ (GMk.step G5.out hbq)) (T1.out _ (GMk.step G5.out hbq)) (by omega)).mono ?_; rintro e wp ⟨Ap, cp, rfl, hop, hbp⟩)
                    | (go_at_call 17; refine (rArrow_any v0.1 v1.1 v0.2.2 v1.2.2 x0 x1 _ (T0.out _ G5.out) (T1.out _ G5.out) (by omega)).mono ?_; rintro e wq ⟨Aq, cq, rfl, hoq, hbq⟩)
                    | (go_at_call 17; refine (rArrow_any v0.1 v1.1 v0.2.2 v1.2.2 x0 x1 _ (T0.out _ (GMk.step G5.out hbp)) (T1.out _ (GMk.step G5.out hbp)) (by omega)).mono ?_; rintro e wq ⟨Aq, cq, rfl, hoq, hbq⟩)
                    | (go_at_call 15; refine (one_any Ap Aq cp cq _ _ (arrowN x0 x1) (arrowN x0 x1) _ (TyA.more (TyA.below (OwnL.tyA hop) hbq) hbq.size) (OwnL.tyA hoq) (by simp [arrowN]; omega)).mono ?_; rintro e wo ⟨rfl, no, rfl⟩; rw [show decide (arrowN x0 x1 = arrowN x0 x1) = true from decide_eq_true rfl]; have hbo := ext_drewN (Below.refl _ wq) no)
                    | (go_at_call 15; refine (one_any Ap Aq cp cq _ _ (arrowN x0 x1) (arrowN x0 x1) _ (OwnL.tyA hop) (TyA.more (TyA.below (OwnL.tyA hoq) hbp) hbp.size) (by simp [arrowN]; omega)).mono ?_; rintro e wo ⟨rfl, no, rfl⟩; rw [show decide (arrowN x0 x1 = arrowN x0 x1) = true from decide_eq_true rfl]; have hbo := ext_drewN (Below.refl _ wp) no))
                all_goals
                  go_wp2_with fail
                  go_ret
                  refine ⟨rfl, ?_⟩
                  rw [← Hg.out]
                  first
                    | exact (GMk.step (GMk.step (GMk.step G5.out hbp) hbq) hbo).ext
                    | exact (GMk.step (GMk.step (GMk.step G5.out hbq) hbp) hbo).ext
    · have d61 : decide ((60 : Int) < (ls.length : Int)) = true := by simp; omega
      go_enter Tryd.func3, Tryd.ntmps3
      go_wp2_with fail
      clear hW c0 c1 c2 gl
      refine (alive_any _ G.out.tab).mono ?_
      rintro e w9 ⟨rfl, hb⟩
      replace G := Lib.hid (G.out.step hb)
      clear hb
      go_wp2_with fail
      go_ret
      exact ⟨rfl, by rw [← Hg.out]; exact G.out.ext⟩
  · have d60 : decide ((60 : Int) < (vs.length : Int)) = true := by simp; omega
    go_enter Tryd.func3, Tryd.ntmps3
    go_wp2_with fail
    clear hW c0 c1 c2 gl
    refine (alive_any _ G.out.tab).mono ?_
    rintro e w9 ⟨rfl, hb⟩
    replace G := Lib.hid (G.out.step hb)
    clear hb
    go_wp2_with fail
    go_ret
    exact ⟨rfl, by rw [← Hg.out]; exact G.out.ext⟩
end Go.Proofs.YtblfeokjlecgkaaDoor
