/- Laid together by a tool from the texts of this seat: TrF TrG TrH TrQ. Conditions: each theorem's own. -/
import Derived.Test.YtblfeokjlecgkaaT10
/- Types that are read from tokens, walked: the reader in memory, its small functions. -/
namespace Go.Proofs.Ytblfeokjlecgkaa
open Go.RowKit

attribute [local go_sem ↓] Go.wp_at_zero Go.wp_at_succ

/-- The reader's cells. -/
def RdAt (w : World) (rb : Nat) (A : Option Addr) (n c : Nat) (p s : Int) (SA : Option Addr) (sn sc : Nat) : Prop := w.heap[rb]? = some (.cells #[.slice A n c, .int .i64 p, .int .i64 s, .slice SA sn sc] 118 (0, 0))
section
variable {w w' : World} {rb n c sn sc : Nat} {p s : Int} {A SA : Option Addr}
theorem RdAt.at_ (h : RdAt w rb A n c p s SA sn sc) : w.cell? ⟨rb, 0, none⟩ = some (.slice A n c) ∧ w.cell? ⟨rb, 1, none⟩ = some (.int .i64 p) ∧ w.cell? ⟨rb, 2, none⟩ = some (.int .i64 s) ∧ w.cell? ⟨rb, 3, none⟩ = some (.slice SA sn sc) := by
  unfold RdAt at h
  exact ⟨by simp [World.cell?, h], by simp [World.cell?, h], by simp [World.cell?, h], by simp [World.cell?, h]⟩
theorem RdAt.fz (h : RdAt w rb A n c p s SA sn sc) : w.frozen? ⟨rb, 0, none⟩ = false ∧ w.frozen? ⟨rb, 1, none⟩ = false ∧ w.frozen? ⟨rb, 2, none⟩ = false ∧ w.frozen? ⟨rb, 3, none⟩ = false := by
  unfold RdAt at h
  exact ⟨by simp [World.frozen?, h], by simp [World.frozen?, h], by simp [World.frozen?, h], by simp [World.frozen?, h]⟩
theorem RdAt.lt (h : RdAt w rb A n c p s SA sn sc) : rb < w.heap.size := (Array.getElem?_eq_some_iff.1 h).1
theorem RdAt.later (h : RdAt w rb A n c p s SA sn sc) (hb : Below w.heap.size w w') : RdAt w' rb A n c p s SA sn sc := (hb.block rb h.lt).trans h
theorem RdAt.setP (h : RdAt w rb A n c p s SA sn sc) (p' : Int) : RdAt (w.setCell ⟨rb, 1, none⟩ (.int .i64 p')) rb A n c p' s SA sn sc := heap_set h 1 _
theorem RdAt.setS (h : RdAt w rb A n c p s SA sn sc) (s' : Int) : RdAt (w.setCell ⟨rb, 2, none⟩ (.int .i64 s')) rb A n c p s' SA sn sc := heap_set h 2 _
theorem RdAt.setA (h : RdAt w rb A n c p s SA sn sc) (SA' : Option Addr) (sn' sc' : Nat) : RdAt (w.setCell ⟨rb, 3, none⟩ (.slice SA' sn' sc')) rb A n c p s SA' sn' sc' := heap_set h 3 _
end
theorem ReadL.tok {w : World} {B : Nat} {A : Option Addr} {L : List Tk} (h : ReadK w B A L) {i : Nat} {t : Tk} (hn : L[i]? = some t) :
    ∃ b o, A = some ⟨b, o, none⟩ ∧ b < B ∧ w.cell? ⟨b, o + i * 4, none⟩ = some (.int .i64 t.k) ∧ w.cell? ⟨b, o + i * 4 + 1, none⟩ = some (.string t.s) ∧ w.cell? ⟨b, o + i * 4 + 2, none⟩ = some (.int .i64 t.f) ∧ w.cell? ⟨b, o + i * 4 + 3, none⟩ = some (.int .i64 t.t) := by
  obtain ⟨b, o, hA, hb, hc⟩ := h (fun e => by rw [e] at hn; simp at hn)
  exact ⟨b, o, hA, hb, hc i t hn 0 _ rfl, hc i t hn 1 _ rfl, hc i t hn 2 _ rfl, hc i t hn 3 _ rfl⟩
theorem hereT_in {L : List Tk} {p : Nat} {t : Tk} (h : L[p]? = some t) : hereT L p = t := by unfold hereT; rw [h]; rfl
theorem hereT_out {L : List Tk} {p : Nat} (h : ¬ p < L.length) : hereT L p = ⟨0, ByteArray.empty, 0, 0⟩ := by unfold hereT; rw [List.getElem?_eq_none (by omega)]; rfl

set_option maxRecDepth 100000 in
set_option maxHeartbeats 8000000 in
theorem here_any (rb : Nat) (A : Option Addr) (c : Nat) (L : List Tk) (p : Nat) (s : Int) (SA : Option Addr) (sn sc : Nat) (w : World) (h : RdAt w rb A L.length c p s SA sn sc) (hr : ReadK w w.heap.size A L) (_hl : L.length ≤ 1000000) :
    Calls Try.prog 188 #[pk rb] w fun e w' => e = .returned (tkV (hereT L p)) ∧ Below w.heap.size w w' := by
  have hrl := h.lt
  obtain ⟨wa, hwa⟩ : ∃ wa, wa = w.alloc (.cells #[.int .i64 0, .string ⟨#[]⟩, .int .i64 0, .int .i64 0] 113) := ⟨_, rfl⟩
  have hab : Below w.heap.size w wa := by rw [hwa]; exact ext_alloc (Below.refl _ _) _
  have HK : Hid (KAt wa w.heap.size 0 ⟨#[]⟩ 0 0) := Lib.hid (by rw [hwa]; exact KAt.new _ _ _ _ _)
  have HR : Hid (∀ j, RdAt (wa.drewN j) rb A L.length c p s SA sn sc) := Lib.hid fun j => h.later (below_drewN hab j)
  have HAB := Lib.hid hab
  by_cases hp : p < L.length
  · obtain ⟨t, ht⟩ := getq_ex hp
    have HT := Lib.hid (hereT_in ht)
    obtain ⟨b, o, rfl, hb, c0, c1, c2, c3⟩ := hr.tok ht
    have HC : Hid (∀ j, (wa.drewN j).cell? ⟨b, o + p * 4, none⟩ = some (.int .i64 t.k) ∧ (wa.drewN j).cell? ⟨b, o + p * 4 + 1, none⟩ = some (.string t.s) ∧ (wa.drewN j).cell? ⟨b, o + p * 4 + 2, none⟩ = some (.int .i64 t.f) ∧ (wa.drewN j).cell? ⟨b, o + p * 4 + 3, none⟩ = some (.int .i64 t.t)) := Lib.hid fun j =>
      ⟨((below_drewN hab j).cell (p := ⟨b, _, none⟩) hb).trans c0, ((below_drewN hab j).cell (p := ⟨b, _, none⟩) hb).trans c1, ((below_drewN hab j).cell (p := ⟨b, _, none⟩) hb).trans c2, ((below_drewN hab j).cell (p := ⟨b, _, none⟩) hb).trans c3⟩
    have H0 := Lib.hid h
    have C0 := Lib.hid (And.intro c0 (And.intro c1 (And.intro c2 c3)))
    clear hab h hr c0 c1 c2 c3 ht
    unfold pk
    go_enter Try.func188, Try.ntmps188
    go_upto_region 1 with fail
    rw [← hwa]
    clear hwa
    have hr0 : ∀ j, (wa.drewN j).cell? ⟨rb, 0, none⟩ = some (.slice (some ⟨b, o, none⟩) L.length c) := fun j => (HR.out j).at_.1
    have hr1 : ∀ j, (wa.drewN j).cell? ⟨rb, 1, none⟩ = some (.int .i64 p) := fun j => (HR.out j).at_.2.1
    go_quiet (fail)
    obtain ⟨wb, hwb⟩ : ∃ wb, wb = wa.drewN nq := ⟨_, rfl⟩
    rw [← hwb]
    obtain ⟨wd, hwd⟩ : ∃ wd, wd = wb.drew := ⟨_, rfl⟩
    have HKB : Hid (KAt wd w.heap.size 0 ⟨#[]⟩ 0 0) := Lib.hid (by rw [hwd, hwb]; exact HK.out.later (below_drewN (Below.refl _ _) _).drew)
    have HAB2 : Hid (Below w.heap.size w wd) := Lib.hid (by rw [hwd, hwb]; exact (below_drewN HAB.out _).drew)
    obtain ⟨SS, hSS⟩ : ∃ SS : World → Prop, SS = fun v => v.cell? ⟨rb, 0, none⟩ = some (.slice (some ⟨b, o, none⟩) L.length c) ∧ v.cell? ⟨rb, 1, none⟩ = some (.int .i64 p) ∧ v.cell? ⟨b, o + p * 4, none⟩ = some (.int .i64 t.k) ∧ v.cell? ⟨b, o + p * 4 + 1, none⟩ = some (.string t.s) ∧ v.cell? ⟨b, o + p * 4 + 2, none⟩ = some (.int .i64 t.f) ∧ v.cell? ⟨b, o + p * 4 + 3, none⟩ = some (.int .i64 t.t) := ⟨_, rfl⟩
    have SSf : ∀ v, Below w.heap.size w v → SS v := fun v hv => by
      rw [hSS]
      exact ⟨(H0.out.later hv).at_.1, (H0.out.later hv).at_.2.1, (hv.cell (p := ⟨b, _, none⟩) hb).trans C0.out.1, (hv.cell (p := ⟨b, _, none⟩) hb).trans C0.out.2.1, (hv.cell (p := ⟨b, _, none⟩) hb).trans C0.out.2.2.1, (hv.cell (p := ⟨b, _, none⟩) hb).trans C0.out.2.2.2⟩
    have hs0 : SS wd := SSf _ HAB2.out
    have hp0 : (0 : Int) ≤ (p : Int) := by omega
    have hp1 : (p : Int) < (L.length : Int) := by omega
    have htn : (p : Int).toNat = p := by omega
    clear hr0 hr1 hwb
    go_upto_region 3 with fail
    refine wp_region_L_drew (S := SS) [] (by kernel_rfl) (by rw [← hwd]; exact hs0) (fun hHeld => ?_)
    rw [← hwd] at hHeld ⊢
    clear hwd
    refine onA 0 [] (some 14) rfl rfl ?_
    refine onA 1 [] (some 15) rfl rfl ?_
    refine onA 2 [] (some 16) rfl rfl ?_
    refine onA 3 [] (some 17) rfl rfl ?_
    refine onA 4 [] (some 18) rfl rfl ?_
    refine onA 5 [] (some 19) rfl rfl ?_
    refine onA 6 [] (some 20) rfl rfl ?_
    refine onA 7 [] (some 21) rfl rfl ?_
    refine onA 8 [] (some 22) rfl rfl ?_
    refine onA 9 [] (some 23) rfl rfl ?_
    have k1 := HKB.out.at_
    have k2 := HKB.out.fz
    refine skipL 10 none (w' := set4 wd w.heap.size t.k t.s t.f t.t) rfl rfl (by kernel_rfl) (by rfl) (by go_simp) (fun _ => SSf _ (below_set4 HAB2.out (Nat.le_refl _) _ _ _ _)) ?_
    refine putA ?_
    refine doneL (by kernel_rfl) ?_ _
    go_wp2_with fail
    obtain ⟨z0, z1, z2, z3⟩ := (HKB.out.set4 t.k t.s t.f t.t).at_
    exact bodyPost_ret (v := tkV t) (by simp [results, Try.results188, go_sem, z0, z1, z2, z3]) rfl ⟨by rw [HT.out], below_set4 HAB2.out (Nat.le_refl _) _ _ _ _⟩
  · have HT := Lib.hid (hereT_out hp)
    clear h hr
    unfold pk
    go_enter Try.func188, Try.ntmps188
    go_upto_region 1 with fail
    rw [← hwa]
    clear hwa hab
    have hr0 : ∀ j, (wa.drewN j).cell? ⟨rb, 0, none⟩ = some (.slice A L.length c) := fun j => (HR.out j).at_.1
    have hr1 : ∀ j, (wa.drewN j).cell? ⟨rb, 1, none⟩ = some (.int .i64 p) := fun j => (HR.out j).at_.2.1
    go_quiet (fail)
    obtain ⟨wb, hwb⟩ : ∃ wb, wb = wa.drewN nq := ⟨_, rfl⟩
    rw [← hwb]
    have HKB : Hid (KAt wb w.heap.size 0 ⟨#[]⟩ 0 0) := Lib.hid (by rw [hwb]; exact HK.out.later (below_drewN (Below.refl _ _) _))
    have HAB2 : Hid (Below w.heap.size w wb) := Lib.hid (by rw [hwb]; exact below_drewN HAB.out _)
    have k1 := HKB.out.at_
    have k2 := HKB.out.fz
    clear hr0 hr1 hwb
    go_wp2_with fail
    obtain ⟨z0, z1, z2, z3⟩ := (HKB.out.set4 0 ⟨#[]⟩ 0 0).at_
    exact bodyPost_ret (v := tkV ⟨0, ⟨#[]⟩, 0, 0⟩) (by simp [results, Try.results188, go_sem, z0, z1, z2, z3]) rfl ⟨by rw [HT.out]; rfl, below_set4 HAB2.out (Nat.le_refl _) _ _ _ _⟩

/-- What the reader is, and what it reads. -/
structure RdM (w : World) (rb : Nat) (A : Option Addr) (c : Nat) (L : List Tk) (p : Nat) (s : Int) (SA : Option Addr) (sn sc : Nat) : Prop where
  r : RdAt w rb A L.length c p s SA sn sc
  k : ReadK w rb A L
  l : L.length ≤ 1000000
theorem RdM.later {w w' : World} {rb c p sn sc : Nat} {A SA : Option Addr} {L : List Tk} {s : Int} (h : RdM w rb A c L p s SA sn sc) (hb : Below w.heap.size w w') : RdM w' rb A c L p s SA sn sc := ⟨h.r.later hb, ReadL.below h.k (hb.mono (Nat.le_of_lt h.r.lt)), h.l⟩
theorem RdM.here {w : World} {rb c p sn sc : Nat} {A SA : Option Addr} {L : List Tk} {s : Int} (h : RdM w rb A c L p s SA sn sc) :
    Calls Try.prog 188 #[pk rb] w fun e w' => e = .returned (tkV (hereT L p)) ∧ Below w.heap.size w w' := here_any rb A c L p s SA sn sc w h.r (ReadL.more h.k (Nat.le_of_lt h.r.lt)) h.l

theorem RdM.setP {w : World} {rb c p sn sc : Nat} {A SA : Option Addr} {L : List Tk} {s : Int} (h : RdM w rb A c L p s SA sn sc) (q : Nat) : RdM (w.setCell ⟨rb, 1, none⟩ (.int .i64 q)) rb A c L q s SA sn sc := ⟨h.r.setP q, ReadL.below h.k ((Below.refl _ _).setCell (p := ⟨rb, 1, none⟩) (Nat.le_refl _) _), h.l⟩

set_option maxRecDepth 100000 in
set_option maxHeartbeats 8000000 in
theorem is_any {rb c p sn sc : Nat} {A SA : Option Addr} {L : List Tk} {s : Int} {w : World} (h : RdM w rb A c L p s SA sn sc) (x : ByteArray) :
    Calls Try.prog 154 #[pk rb, .string x] w fun e w' => e = .returned (.bool (isS L p x)) ∧ Below w.heap.size w w' := by
  have H := Lib.hid h.here
  clear h
  unfold pk at *
  cases h1 : ((hereT L p).k == 5) with
  | true =>
    cases h2 : ((hereT L p).s.toList == x.toList) with
    | true =>
      have HS : Hid (isS L p x = true) := Lib.hid (by unfold isS; rw [h1, h2]; rfl)
      go_enter Try.func154, Try.ntmps154
      go_wp2_with fail
      refine H.out.mono ?_
      rintro e w1 ⟨rfl, hb⟩
      have HB := Lib.hid hb
      clear hb
      go_wp2_with fail
      go_ret
      exact ⟨ret_bool (by rw [HS.out]), ext_alloc HB.out _⟩
    | false => 
      have HS : Hid (isS L p x = false) := Lib.hid (by unfold isS; rw [h1, h2]; rfl)
      go_enter Try.func154, Try.ntmps154
      go_wp2_with fail
      refine H.out.mono ?_
      rintro e w1 ⟨rfl, hb⟩
      have HB := Lib.hid hb
      clear hb
      go_wp2_with fail
      go_ret
      exact ⟨ret_bool (by rw [HS.out]), ext_alloc HB.out _⟩
  | false =>
    have HS : Hid (isS L p x = false) := Lib.hid (by unfold isS; rw [h1]; rfl)
    go_enter Try.func154, Try.ntmps154
    go_wp2_with fail
    refine H.out.mono ?_
    rintro e w1 ⟨rfl, hb⟩
    have HB := Lib.hid hb
    clear hb
    go_wp2_with fail
    go_ret
    exact ⟨ret_bool (by rw [HS.out]), ext_alloc HB.out _⟩

set_option maxRecDepth 100000 in
set_option maxHeartbeats 8000000 in
theorem has_any {rb c p sn sc : Nat} {A SA : Option Addr} {L : List Tk} {s : Int} {w : World} (h : RdM w rb A c L p s SA sn sc) (x : ByteArray) (hp : p ≤ 1000000) :
    Calls Try.prog 192 #[pk rb, .string x] w fun e w' => e = .returned (.bool (isS L p x)) ∧ RdM w' rb A c L (if isS L p x = true then p + 1 else p) s SA sn sc ∧ Fr (fun k => k = rb) w w' := by
  have H := Lib.hid h
  have HI := Lib.hid (is_any h x)
  clear h
  unfold pk at *
  cases hx : isS L p x with
  | false =>
    rw [hx] at HI
    go_enter Try.func192, Try.ntmps192
    go_wp2_with fail
    refine HI.out.mono ?_
    rintro e w1 ⟨rfl, hb⟩
    have HB := Lib.hid hb
    clear hb
    go_wp2_with fail
    go_ret
    exact ⟨rfl, by simpa using H.out.later HB.out, Fr.below HB.out⟩
  | true =>
    rw [hx] at HI
    go_enter Try.func192, Try.ntmps192
    go_wp2_with fail
    refine HI.out.mono ?_
    rintro e w1 ⟨rfl, hb⟩
    have HB := Lib.hid hb
    have H1 := Lib.hid (H.out.later hb)
    have k1 := H1.out.r.at_
    have k2 := H1.out.r.fz
    clear hb
    go_wp2_with fail
    go_ret
    exact ⟨rfl, H1.out.setP (p + 1), Fr.setCell (X := fun k => k = rb) (Fr.below HB.out) (.inl rfl) _⟩

/-- What is wrong, as it is handed up. -/
abbrev wrongV (p : Nat) (e : Int) : Value := .iface 120 (.agg #[.int .i64 p, .int .i64 e])
abbrev badE (p : Nat) (e : Int) : Ending := .panicked [{ v := wrongV p e, recovered := false }]

set_option maxRecDepth 100000 in
set_option maxHeartbeats 8000000 in
theorem fail_any {rb c p sn sc : Nat} {A SA : Option Addr} {L : List Tk} {s : Int} {w : World} (h : RdM w rb A c L p s SA sn sc) (e0 : Int) :
    Calls Try.prog 194 #[pk rb, .int .i64 e0] w fun e w' => e = badE p e0 ∧ Below w.heap.size w w' := by
  have k1 := h.r.at_
  clear h
  unfold pk at *
  go_enter Try.func194, Try.ntmps194
  go_wp2_with fail
  exact ⟨rfl, rfl, Below.refl _ _⟩

set_option maxRecDepth 100000 in
set_option maxHeartbeats 8000000 in
theorem needs_any {rb c p sn sc : Nat} {A SA : Option Addr} {L : List Tk} {s : Int} {w : World} (h : RdM w rb A c L p s SA sn sc) (x : ByteArray) (hp : p ≤ 1000000) :
    Calls Try.prog 191 #[pk rb, .string x] w fun e w' => Fr (fun k => k = rb) w w' ∧ ((isS L p x = true ∧ e = .returned (.tuple #[]) ∧ RdM w' rb A c L (p + 1) s SA sn sc) ∨ (isS L p x = false ∧ e = badE p 2)) := by
  have H := Lib.hid h
  have HH := Lib.hid (has_any h x hp)
  clear h
  unfold pk at *
  cases hx : isS L p x with
  | true =>
    rw [hx] at HH
    go_enter Try.func191, Try.ntmps191
    go_wp2_with fail
    refine HH.out.mono ?_
    rintro e w1 ⟨rfl, hr, hf⟩
    go_wp2_with fail
    go_end0
    exact ⟨hf, .inl ⟨trivial, rfl, by simpa using hr⟩⟩
  | false =>
    rw [hx] at HH
    go_enter Try.func191, Try.ntmps191
    go_wp2_with fail
    refine HH.out.mono ?_
    rintro e w1 ⟨rfl, hr, hf⟩
    have HF := Lib.hid (fail_any (by simpa using hr) 2)
    unfold pk at HF
    go_wp2_with fail
    refine HF.out.mono ?_
    rintro e w2 ⟨rfl, hb⟩
    exact ⟨rfl, hf.trans (Fr.below hb), .inr ⟨trivial, rfl⟩⟩

def DownPost (lv : Int) (p : Nat) (w : World) (e : Ending) (w' : World) : Prop := Below w.heap.size w w' ∧ ((100 ≤ lv ∧ e = badE p 4) ∨ (lv < 100 ∧ e = .returned (.int .i64 (lv + 1))))
set_option maxRecDepth 100000 in
set_option maxHeartbeats 8000000 in
theorem down_any {rb c p sn sc : Nat} {A SA : Option Addr} {L : List Tk} {s : Int} {w : World} (h : RdM w rb A c L p s SA sn sc) (lv : Int) (h0 : 0 ≤ lv) :
    Calls Try.prog 155 #[pk rb, .int .i64 lv] w (DownPost lv p w) := by
  have HF := Lib.hid (fail_any h 4)
  clear h
  unfold pk at *
  by_cases hl : 100 ≤ lv
  · go_enter Try.func155, Try.ntmps155
    go_wp2_with fail
    refine HF.out.mono ?_
    rintro e w2 ⟨rfl, hb⟩
    exact ⟨rfl, hb, .inl ⟨hl, rfl⟩⟩
  · have hl2 : lv < 100 := by omega
    have hw : IntKind.i64.wrap (lv + 1) = lv + 1 := IntWalk.i64_in _ (by omega)
    go_enter Try.func155, Try.ntmps155
    go_wp2_with fail
    go_ret
    exact ⟨Below.refl _ _, .inr ⟨hl2, by first | rfl | (simp [hw])⟩⟩

end Go.Proofs.Ytblfeokjlecgkaa

/- Types that are read from tokens, walked: keys, labels, a ?. -/
namespace Go.Proofs.Ytblfeokjlecgkaa
open Go.RowKit

attribute [local go_sem ↓] Go.wp_at_zero Go.wp_at_succ

set_option maxRecDepth 100000 in
set_option maxHeartbeats 8000000 in
theorem indexS_any (A : Option Addr) (c : Nat) (l : List ByteArray) (x : ByteArray) (w : World) (hr : ReadL 1 encL w w.heap.size A l) (hl : l.length ≤ 1000000) :
    Calls Try.prog 215 #[.slice A l.length c, .string x] w fun e w' => e = .returned (.int .i64 (idxS l x)) ∧ Below w.heap.size w w' := by
  have HR := Lib.hid hr
  clear hr
  go_enter Try.func215, Try.ntmps215
  go_wp2_with fail
  go_loopw [5, 8] (fun _ i wr => ∃ k f : Nat, k + f = l.length ∧ i = .int .i64 k ∧ Hid (idxFrom l x f k = idxS l x) ∧ Hid (Below w.heap.size w wr)) (fun _ i _ => l.length - (intOf i).toNat)
  case atStart => exact ⟨0, l.length, by omega, rfl, Lib.hid rfl, Lib.hid (Below.refl _ _)⟩
  case round =>
    obtain ⟨k, f, hkf, rfl, HI, HB⟩ := hrel
    by_cases hp : k < l.length
    · obtain ⟨y, hy⟩ := getq_ex hp
      obtain ⟨b, o, rfl, hb, hc0⟩ := readL_txt HR.out hy
      have hc := (HB.out.cell (p := ⟨b, o + k, none⟩) hb).trans hc0
      obtain ⟨g, rfl⟩ : ∃ g, f = g + 1 := ⟨f - 1, by omega⟩
      have HS : Hid (idxFrom l x (g + 1) k = if (x.toList == y.toList) = true then (k : Int) else idxFrom l x g (k + 1)) := Lib.hid (by simp only [idxFrom, hy])
      have HKF := Lib.hid hkf
      clear hy hc0 hkf
      cases hm : (x.toList == y.toList) with
      | true =>
        have HM := Lib.hid hm
        go_wp2_with fail
        go_ret
        exact ⟨by rw [← HI.out, HS.out, if_pos HM.out]; rfl, HB.out⟩
      | false =>
        have HM := Lib.hid hm
        go_wp2_with fail
        go_roundw
        case rel => exact ⟨k + 1, g, by have := HKF.out; omega, by go_num, Lib.hid (by rw [← HI.out, HS.out, if_neg (by rw [HM.out]; simp)]), HB⟩
        case measure => simp [intOf]; omega
    · have hf0 : f = 0 := by omega
      have HE : Hid (idxFrom l x f k = -1) := Lib.hid (by rw [hf0]; rfl)
      clear hkf hf0
      go_wp2_with fail
      go_ret
      exact ⟨by rw [← HI.out, HE.out]; rfl, HB.out⟩

set_option maxRecDepth 100000 in
set_option maxHeartbeats 8000000 in
theorem containsS_any (A : Option Addr) (c : Nat) (l : List ByteArray) (x : ByteArray) (w : World) (hr : ReadL 1 encL w w.heap.size A l) (hl : l.length ≤ 1000000) :
    Calls Try.prog 225 #[.slice A l.length c, .string x] w fun e w' => e = .returned (.bool (decide (0 ≤ idxS l x))) ∧ Below w.heap.size w w' := by
  have H := Lib.hid (indexS_any A c l x w hr hl)
  clear hr
  obtain ⟨i, hi⟩ : ∃ i, i = idxS l x := ⟨_, rfl⟩
  rw [← hi] at H ⊢
  clear hi
  go_enter Try.func225, Try.ntmps225
  go_wp2_with fail
  refine H.out.mono ?_
  rintro e w1 ⟨rfl, hb⟩
  have HB := Lib.hid hb
  clear hb
  go_wp2_with fail
  go_ret
  exact ⟨rfl, HB.out⟩

theorem idxFrom_lt (l : List ByteArray) (x : ByteArray) : ∀ (f k : Nat), -1 ≤ idxFrom l x f k ∧ idxFrom l x f k < l.length + 1
  | 0, k => by simp only [idxFrom]; omega
  | f + 1, k => by
    simp only [idxFrom]
    split
    · omega
    · next y hy =>
      split
      · have := (List.getElem?_eq_some_iff.1 hy).1; omega
      · exact idxFrom_lt l x f (k + 1)

set_option maxRecDepth 100000 in
set_option maxHeartbeats 8000000 in
theorem base_any (x : ByteArray) (w : World) : Calls Try.prog 189 #[.string x] w fun e w' => e = .returned (.tuple #[.int .i64 (1 + idxS basesL x), .bool (decide (0 ≤ idxS basesL x))]) ∧ Below w.heap.size w w' := by
  have hbd := idxFrom_lt basesL x basesL.length 0
  obtain ⟨i, hi⟩ : ∃ i, i = idxS basesL x := ⟨_, rfl⟩
  have hi2 : -1 ≤ i ∧ i < 5 := by rw [hi]; exact hbd
  rw [← hi]
  obtain ⟨oc, hoc⟩ : ∃ oc : Obj, oc = .cells #[.string ⟨#[105, 110, 116]⟩, .string ⟨#[98, 111, 111, 108]⟩, .string ⟨#[115, 116, 114, 105, 110, 103]⟩, .string ⟨#[117, 110, 105, 116]⟩] 9 := ⟨_, rfl⟩
  have HR : Hid (ReadL 1 encL (w.alloc oc) (w.alloc oc).heap.size (some ⟨w.heap.size, 0, none⟩) basesL) := Lib.hid (by rw [hoc, World.size_alloc]; exact readStr_new w basesL _ _ rfl)
  have H := Lib.hid (indexS_any (some ⟨w.heap.size, 0, none⟩) 4 basesL x (w.alloc oc) HR.out (by decide))
  rw [← hi] at H
  clear hbd hi HR
  go_enter Try.func189, Try.ntmps189
  go_wp2_with fail
  rw [← hoc]
  clear hoc
  refine H.out.mono ?_
  rintro e w1 ⟨rfl, hb⟩
  have HB := Lib.hid (ext_trans (ext_alloc (Below.refl _ _) oc) hb)
  have hw : IntKind.i64.wrap (1 + i) = 1 + i := IntWalk.i64_in _ (by omega)
  clear hb
  go_wp2_with fail
  go_ret2
  exact ⟨rfl, HB.out⟩

set_option maxRecDepth 100000 in
set_option maxHeartbeats 8000000 in
theorem names_any (kind : Int) (t : Tk) (w : World) : Calls Try.prog 224 #[.int .i64 kind, tkV t] w fun e w' => e = .returned (.bool (namesB kind t)) ∧ Below w.heap.size w w' := by
  have HW := Lib.hid (fun v => isWord_any t.s v)
  have HT := Lib.hid (fun v => isTag_any t.s v)
  obtain ⟨wb, hwb⟩ : ∃ wb, wb = wordB t.s := ⟨_, rfl⟩
  obtain ⟨tb, htb⟩ : ∃ tb, tb = tagB t.s := ⟨_, rfl⟩
  rw [← hwb] at HW
  rw [← htb] at HT
  cases h1 : (t.k == kind) with
  | false =>
    have hne : (t.k != kind) = true := by simp only [bne, h1]; rfl
    have HN : Hid (namesB kind t = false) := Lib.hid (by unfold namesB; rw [h1]; rfl)
    clear hwb htb
    go_enter Try.func224, Try.ntmps224
    go_wp2_with fail
    go_ret
    exact ⟨by rw [HN.out]; rfl, ext_alloc (Below.refl _ _) _⟩
  | true =>
    have hne : (t.k != kind) = false := by simp only [bne, h1]; rfl
    cases h2 : (kind == 1) with
    | true =>
      have HN : Hid (namesB kind t = wb) := Lib.hid (by unfold namesB; rw [h1, h2, hwb]; rfl)
      clear hwb htb
      go_enter Try.func224, Try.ntmps224
      go_wp2_with fail
      refine (HW.out _).mono ?_
      rintro e w1 ⟨rfl, hb⟩
      have HB := Lib.hid (ext_trans (ext_alloc (Below.refl _ _) _) hb)
      clear hb
      go_wp2_with fail
      go_ret
      exact ⟨by rw [HN.out]; rfl, HB.out⟩
    | false =>
      have HN : Hid (namesB kind t = tb) := Lib.hid (by unfold namesB; rw [h1, h2, htb]; rfl)
      clear hwb htb
      go_enter Try.func224, Try.ntmps224
      go_wp2_with fail
      refine (HT.out _).mono ?_
      rintro e w1 ⟨rfl, hb⟩
      have HB := Lib.hid (ext_trans (ext_alloc (Below.refl _ _) _) hb)
      clear hb
      go_wp2_with fail
      go_ret
      exact ⟨by rw [HN.out]; rfl, HB.out⟩

/-- What a label comes to. -/
def LabPost (rb : Nat) (A : Option Addr) (c : Nat) (L : List Tk) (p : Nat) (s : Int) (SA : Option Addr) (sn sc : Nat) (kind : Int) (ls : List ByteArray) (w : World) (e : Ending) (w' : World) : Prop := Fr (fun k => k = rb) w w' ∧
  if namesB kind (hereT L p) = false then e = badE p 2
  else if 0 ≤ idxS ls (hereT L p).s then e = badE p 7
  else if 50 ≤ ls.length then e = badE p 3
  else e = .returned (.string (hereT L p).s) ∧ RdM w' rb A c L (p + 1) s SA sn sc

set_option maxRecDepth 100000 in
set_option maxHeartbeats 8000000 in
theorem label_any {rb c p sn sc : Nat} {A SA : Option Addr} {L : List Tk} {s : Int} {w : World} (h : RdM w rb A c L p s SA sn sc) (kind : Int) (B : Option Addr) (cb : Nat) (ls : List ByteArray) (hB : ReadL 1 encL w w.heap.size B ls) (hls : ls.length ≤ 1000000) (hp : p ≤ 1000000) :
    Calls Try.prog 216 #[pk rb, .int .i64 kind, .slice B ls.length cb] w (LabPost rb A c L p s SA sn sc kind ls w) := by
  have H := Lib.hid h
  have HI := Lib.hid h.here
  obtain ⟨t, ht⟩ : ∃ t, t = hereT L p := ⟨_, rfl⟩
  have HT := Lib.hid ht
  rw [← ht] at HI
  have HB := Lib.hid hB
  have HNm := Lib.hid (fun v => names_any kind t v)
  obtain ⟨wa, hwa⟩ : ∃ f : World → World, f = fun v => v.alloc (.cells #[.int .i64 t.k, .string t.s, .int .i64 t.f, .int .i64 t.t] 113) := ⟨_, rfl⟩
  clear h hB ht
  unfold pk at *
  go_enter Try.func216, Try.ntmps216
  go_wp2_with fail
  refine HI.out.mono ?_
  rintro e w1 ⟨rfl, hb1⟩
  have hb1a : Below w.heap.size w (wa w1) := by rw [hwa]; exact ext_alloc hb1 _
  have HB1 := Lib.hid hb1a
  have HK1 : Hid (KAt (wa w1) w1.heap.size t.k t.s t.f t.t) := Lib.hid (by rw [hwa]; exact KAt.new _ _ _ _ _)
  have HNE : Hid (w1.heap.size ≠ rb) := Lib.hid (by have := H.out.r.lt; have := hb1.size; omega)
  clear hb1 hb1a
  go_upto_region 2 with fail
  have hwa1 : w1.alloc (.cells #[.int .i64 t.k, .string t.s, .int .i64 t.f, .int .i64 t.t] 113) = wa w1 := by rw [hwa]
  rw [hwa1]
  obtain ⟨w2, hw2⟩ : ∃ w2, w2 = wa w1 := ⟨_, rfl⟩
  rw [← hw2] at HB1 HK1 ⊢
  clear hwa1 hwa hw2
  obtain ⟨k0, k1, k2, k3⟩ := HK1.out.at_
  go_wp2_with fail
  refine (HNm.out w2).mono ?_
  rintro e w3 ⟨rfl, hb3⟩
  have HB3 := Lib.hid (ext_trans HB1.out hb3)
  have HK3 := Lib.hid (HK1.out.later hb3)
  obtain ⟨k0, k1, k2, k3⟩ := HK3.out.at_
  clear hb3
  cases hn : namesB kind t with
  | false =>
    have HN : Hid (namesB kind (hereT L p) = false) := Lib.hid (by rw [← HT.out, hn])
    have HF := Lib.hid (fail_any (H.out.later HB3.out) 2)
    unfold pk at HF
    go_wp2_with fail
    refine HF.out.mono ?_
    rintro e w4 ⟨rfl, hb4⟩
    exact ⟨rfl, Fr.below (ext_trans HB3.out hb4), by rw [if_pos HN.out]⟩
  | true =>
    have HN : Hid (¬ namesB kind (hereT L p) = false) := Lib.hid (by rw [← HT.out, hn]; simp)
    have HC := Lib.hid (containsS_any B cb ls t.s w3 ((ReadL.below HB.out HB3.out).more HB3.out.size) hls)
    go_wp2_with fail
    refine HC.out.mono ?_
    rintro e w4 ⟨rfl, hb4⟩
    have HB4 := Lib.hid (ext_trans HB3.out hb4)
    have HK4 := Lib.hid (HK3.out.later hb4)
    obtain ⟨k0, k1, k2, k3⟩ := HK4.out.at_
    clear hb4
    by_cases hi : 0 ≤ idxS ls t.s
    · have HI2 : Hid (0 ≤ idxS ls (hereT L p).s) := Lib.hid (by rw [← HT.out]; exact hi)
      have HF := Lib.hid (fail_any (H.out.later HB4.out) 7)
      unfold pk at HF
      go_wp2_with fail
      refine HF.out.mono ?_
      rintro e w5 ⟨rfl, hb5⟩
      exact ⟨rfl, Fr.below (ext_trans HB4.out hb5), by rw [if_neg HN.out, if_pos HI2.out]⟩
    · have HI2 : Hid (¬ 0 ≤ idxS ls (hereT L p).s) := Lib.hid (by rw [← HT.out]; exact hi)
      by_cases h50 : 50 ≤ ls.length
      · have HL := Lib.hid h50
        have HF := Lib.hid (fail_any (H.out.later HB4.out) 3)
        unfold pk at HF
        go_wp2_with fail
        refine HF.out.mono ?_
        rintro e w5 ⟨rfl, hb5⟩
        exact ⟨rfl, Fr.below (ext_trans HB4.out hb5), by rw [if_neg HN.out, if_neg (by have := HI2.out; omega), if_pos HL.out]⟩
      · have HL := Lib.hid h50
        have HR4 := Lib.hid (H.out.later HB4.out)
        have r1 := HR4.out.r.at_
        have r2 := HR4.out.r.fz
        have hne := HNE.out
        go_wp2_with fail
        go_ret
        refine ⟨Fr.setCell (X := fun k => k = rb) (Fr.below HB4.out) (.inl rfl) _, ?_⟩
        rw [if_neg HN.out, if_neg (by have := HI2.out; omega), if_neg (by have := HL.out; omega), ← HT.out]
        exact ⟨rfl, HR4.out.setP (p + 1)⟩
end Go.Proofs.Ytblfeokjlecgkaa

/- Types that are read from tokens, walked: a ?, and what a reader leaves as it was. -/
namespace Go.Proofs.Ytblfeokjlecgkaa
open Go.RowKit

attribute [local go_sem ↓] Go.wp_at_zero Go.wp_at_succ

def encSi (p : Nat × Nat) : List Value := [.int .i64 p.1, .int .i64 p.2, .bool false]
theorem encSi_len (p : Nat × Nat) : (encSi p).length = 3 := rfl
theorem encSi_one (p : Nat × Nat) : ∀ u ∈ encSi p, u.oneCell' = true := by simp [encSi, Value.oneCell']
theorem infoSi : (Try.prog.info? 71).map (fun i => (i.zero, i.size, i.bytes)) = some (some (.agg #[.int .i64 0, .int .i64 0, .bool false]), 3, 24) := by kernel_rfl
abbrev OwnSi (w : World) (base : Nat) (A : Option Addr) (cap : Nat) (l : List (Nat × Nat)) : Prop := OwnL 71 3 encSi w base A cap l
theorem readSi_new (w : World) (p : Nat × Nat) : ReadL 3 encSi (w.alloc (.cells #[.int .i64 p.1, .int .i64 p.2, .bool false] 71)) (w.heap.size + 1) (some ⟨w.heap.size, 0, none⟩) [p] := fun _ => by
  refine ⟨w.heap.size, 0, rfl, by omega, fun i y hy j u hu => ?_⟩
  have h1 := heap_alloc_new w (.cells #[.int .i64 p.1, .int .i64 p.2, .bool false] 71)
  match i, hy with
  | 0, hy =>
    simp only [List.getElem?_cons_zero, Option.some.injEq] at hy
    subst hy
    simp only [World.cell?, h1]
    simpa [encSi] using hu
  | i + 1, hy => simp at hy

/-- The blocks that a reader writes: its own, and its sites'. -/
def XS (rb : Nat) (SA : Option Addr) (k : Nat) : Prop := k = rb ∨ ∃ a, SA = some a ∧ a.block = k
/-- All else stands; the sites lie where they did, or in a new block. -/
structure RStep (rb : Nat) (SA SA' : Option Addr) (w w' : World) : Prop where
  fr : Fr (XS rb SA) w w'
  sa : ∀ a, SA' = some a → XS rb SA a.block ∨ w.heap.size ≤ a.block
theorem RStep.below {rb : Nat} {SA : Option Addr} {w w' : World} (h : Below w.heap.size w w') : RStep rb SA SA w w' := ⟨Fr.below h, fun a ha => .inl (.inr ⟨a, ha, rfl⟩)⟩
theorem RStep.own {rb : Nat} {SA : Option Addr} {w w' : World} (h : Fr (fun k => k = rb) w w') : RStep rb SA SA w w' := ⟨h.mono fun _k hk => .inl hk, fun a ha => .inl (.inr ⟨a, ha, rfl⟩)⟩
theorem RStep.trans {rb : Nat} {SA SB SC : Option Addr} {w w1 w2 : World} (h : RStep rb SA SB w w1) (k : RStep rb SB SC w1 w2) : RStep rb SA SC w w2 := by
  have hx : ∀ b, XS rb SB b → XS rb SA b ∨ w.heap.size ≤ b := fun b hb => by
    rcases hb with hb | ⟨a, ha, hb⟩
    · exact .inl (.inl hb)
    · rw [← hb]; exact h.sa a ha
  refine ⟨h.fr.new k.fr hx, fun a ha => ?_⟩
  rcases k.sa a ha with h1 | h1
  · exact hx _ h1
  · exact .inr (Nat.le_trans h.fr.size h1)

theorem RStep.under {rb : Nat} {SA SA' : Option Addr} {w w' : World} (h : RStep rb SA SA' w w') (hr : rb < w.heap.size) (hs : ∀ a, SA = some a → rb < a.block) : Below rb w w' :=
  ⟨h.fr.os, h.fr.tape, h.fr.output, h.fr.size, fun k hk => h.fr.block k (by omega) fun hx => by
    rcases hx with hx | ⟨a, ha, hx⟩
    · omega
    · have := hs a ha
      omega⟩

/-- The reader, with its sites. -/
structure RdO (w : World) (rb : Nat) (A : Option Addr) (c : Nat) (L : List Tk) (s0 : Int) (st : RS) (SA : Option Addr) (sc : Nat) : Prop where
  m : RdM w rb A c L st.pos (s0 + (st.si.length : Int)) SA st.si.length sc
  o : OwnSi w (rb + 1) SA sc st.si

theorem op_appSi {w : World} {o : Oper} {a : Act} {K : Act → World → Prop} {Q : Exit → Act → World → Prop} (s x : Operand)
    (ho : o.op = .call { callee := .builtin .append, args := #[s, x], argTypes := #[67, 67] })
    (base : Nat) {A : Option Addr} {cap : Nat} {l : List (Nat × Nat)} (hs : a.eval s = .slice A l.length cap) (hown : OwnSi w base A cap l) {B : Nat} {A2 : Option Addr} {c : Nat} {l2 : List (Nat × Nat)} (hx : a.eval x = .slice A2 l2.length c) (hr : ReadL 3 encSi w B A2 l2)
    (hlen : l.length + l2.length ≤ 1000000000000) (hbase : base ≤ w.heap.size)
    (h : ∀ A' cap' w', OwnSi w' base A' cap' (l ++ l2) → w.grownBy w' ((Value.slice A l.length cap).ownBlock) →
      ((Value.slice A' (l.length + l2.length) cap').ownBlock = (Value.slice A l.length cap).ownBlock ∨ (Value.slice A' (l.length + l2.length) cap').ownBlock = some w.heap.size) → K (a.put o.dst (.slice A' (l.length + l2.length) cap')) w') : Oper.wp Try.prog o a w K Q := by
  obtain ⟨i0, hi, hz0, hz1, hz2⟩ := info_parts infoSi
  exact wp_app w encSi_len encSi_one s x 67 ho base 71 i0 _ 24 Try.underlying67 hi hz0 hz1 hz2 rfl (by decide) hs hown hx hr (by unfold maxLen; omega) (by omega) hbase h

/-- A type that was made behind world w, off the sites. -/
structure HasT (w w' : World) (B : Option Addr) (t : List Nd) (SA : Option Addr) : Prop where
  t : TyA w' w'.heap.size B t
  lo : ∀ a, B = some a → w.heap.size ≤ a.block
  hi : ∀ a, B = some a → a.block < w'.heap.size
  off : ∀ a, B = some a → ∀ b, SA = some b → b.block ≠ a.block
/-- What reading leaves. -/
def WPost (rb : Nat) (A : Option Addr) (c : Nat) (L : List Tk) (s0 : Int) (SA : Option Addr) (w : World) (r : RRes) (e : Ending) (w' : World) : Prop :=
  match r with
  | .ok t st => ∃ (B : Option Addr) (cb : Nat) (SA' : Option Addr) (sc' : Nat), e = .returned (.slice B t.length cb) ∧ RdO w' rb A c L s0 st SA' sc' ∧ HasT w w' B t SA' ∧ RStep rb SA SA' w w'
  | .bad p x => e = badE p x ∧ ∃ SA', RStep rb SA SA' w w'

set_option maxRecDepth 100000 in
set_option maxHeartbeats 8000000 in
theorem dyn_any {rb c sc : Nat} {A SA : Option Addr} {L : List Tk} {s0 : Int} {st : RS} {w : World} (h : RdO w rb A c L s0 st SA sc) (hp : st.pos ≤ 1000000) (hs : st.si.length ≤ 1000000) (h0 : 0 ≤ s0) (h1 : s0 ≤ 1000000) :
    Calls Try.prog 190 #[pk rb] w (WPost rb A c L s0 SA w (.ok [⟨0, ByteArray.empty, s0 + (st.si.length : Int)⟩] ⟨st.pos + 1, st.si ++ [((hereT L st.pos).f, (hereT L st.pos).t)]⟩)) := by
  have H := Lib.hid h
  have HI := Lib.hid h.m.here
  obtain ⟨t, ht⟩ : ∃ t, t = hereT L st.pos := ⟨_, rfl⟩
  have HT := Lib.hid ht
  rw [← ht] at HI
  have hrl := h.m.r.lt
  clear h ht
  unfold pk at *
  go_enter Try.func190, Try.ntmps190
  go_wp2_with fail
  refine HI.out.mono ?_
  rintro e w1 ⟨rfl, hb1⟩
  obtain ⟨w2, hw2⟩ : ∃ w2, w2 = w1.alloc (.cells #[.int .i64 t.k, .string t.s, .int .i64 t.f, .int .i64 t.t] 113) := ⟨_, rfl⟩
  have hb2 : Below w.heap.size w w2 := by rw [hw2]; exact ext_alloc hb1 _
  have HK : Hid (KAt w2 w1.heap.size t.k t.s t.f t.t) := Lib.hid (by rw [hw2]; exact KAt.new _ _ _ _ _)
  have HB2 := Lib.hid hb2
  have HSA : Hid (∀ k, (Value.slice SA st.si.length sc).ownBlock = some k → rb < k ∧ k < w1.heap.size) := Lib.hid fun k e => by
    obtain ⟨a, ha, rfl⟩ := ownBlock_of e
    have h1 := OwnL.lt H.out.o a ha
    have h2 := hb1.size
    omega
  have HNE : Hid (rb < w1.heap.size) := Lib.hid (Nat.lt_of_lt_of_le hrl hb1.size)
  go_upto_region 2 with fail
  rw [← hw2]
  clear hw2 hb1 hb2
  have HM2 := Lib.hid (H.out.m.later HB2.out)
  have HO2 := Lib.hid (H.out.o.below HB2.out (Nat.le_refl _))
  obtain ⟨sl, hsl⟩ : ∃ sl, sl = st.si.length := ⟨_, rfl⟩
  obtain ⟨SS, hSS⟩ : ∃ SS : World → Prop, SS = fun v => v.cell? ⟨rb, 3, none⟩ = some (.slice SA sl sc) ∧ v.cell? ⟨w1.heap.size, 2, none⟩ = some (.int .i64 t.f) ∧ v.cell? ⟨w1.heap.size, 3, none⟩ = some (.int .i64 t.t) := ⟨_, rfl⟩
  obtain ⟨w3, hw3⟩ : ∃ w3, w3 = w2.drew := ⟨_, rfl⟩
  have HB3 : Hid (Below w.heap.size w w3) := Lib.hid (by rw [hw3]; exact HB2.out.drew)
  have HR3 : Hid (RdAt w3 rb A L.length c st.pos (s0 + (st.si.length : Int)) SA st.si.length sc) := Lib.hid (by rw [hw3]; exact HM2.out.r)
  have HK3 : Hid (KAt w3 w1.heap.size t.k t.s t.f t.t) := Lib.hid (by rw [hw3]; exact HK.out)
  have HO3 : Hid (OwnSi w3 (rb + 1) SA sc st.si) := Lib.hid (by rw [hw3]; exact HO2.out)
  have HSof : Hid (∀ v, RdAt v rb A L.length c st.pos (s0 + (st.si.length : Int)) SA st.si.length sc → KAt v w1.heap.size t.k t.s t.f t.t → SS v) := Lib.hid fun v h1 h2 => by
    rw [hSS, hsl]
    exact ⟨h1.at_.2.2.2, h2.at_.2.2.1, h2.at_.2.2.2⟩
  have hs0 : SS w3 := by
    rw [hSS, hw3, hsl]
    exact ⟨HM2.out.r.at_.2.2.2, HK.out.at_.2.2.1, HK.out.at_.2.2.2⟩
  refine wp_region_L_drew (S := SS) [14] (by kernel_rfl) (by rw [← hw3]; exact hs0) (fun hHeld => ?_)
  rw [← hw3] at hHeld ⊢
  clear hw3
  refine onA 0 [12, 13, 14] (some 6) rfl rfl ?_
  refine onA 1 [2, 3, 4, 11, 12, 13, 14] (some 7) rfl rfl ?_
  refine onA 2 [3, 4, 11, 12, 13, 14] (some 8) rfl rfl ?_
  refine onA 3 [4, 11, 12, 13, 14] (some 9) rfl rfl ?_
  refine onA 4 [11, 12, 13, 14] (some 10) rfl rfl ?_
  refine onA 5 [6, 9, 10, 11, 12, 13, 14] (some 11) rfl rfl ?_
  refine onA 6 [9, 10, 11, 12, 13, 14] (some 12) rfl rfl ?_
  refine onA 7 [8, 9, 10, 11, 12, 13, 14] (some 13) rfl rfl ?_
  refine onA 8 [9, 10, 11, 12, 13, 14] (some 14) rfl rfl ?_
  refine onA 9 [10, 11, 12, 13, 14] (some 15) rfl rfl ?_
  refine valL 10 (some 16) (v := ?_) (w' := ?_) rfl rfl (by kernel_rfl) (by rfl) ?_ (fun _ => ?_) ?_
  rotate_left
  rotate_left
  · (go_simp; first | with_reducible rfl | (constructor <;> with_reducible rfl))
  · exact HSof.out _ (HR3.out.later ((Below.refl _ _).alloc (Nat.le_refl _) _)) (HK3.out.later ((Below.refl _ _).alloc (Nat.le_refl _) _))
  refine putA ?_
  obtain ⟨w4, hw4⟩ : ∃ w4, w4 = w3.alloc (.cells #[.int .i64 t.f, .int .i64 t.t, .bool false] 71) := ⟨_, rfl⟩
  rw [← hw4]
  have HB4 : Hid (Below w3.heap.size w3 w4) := Lib.hid (by rw [hw4]; exact (Below.refl _ _).alloc (Nat.le_refl _) _)
  have HN4 : Hid (ReadL 3 encSi w4 (w3.heap.size + 1) (some ⟨w3.heap.size, 0, none⟩) [(t.f, t.t)]) := Lib.hid (by rw [hw4]; exact readSi_new w3 _)
  have HO4 : Hid (OwnSi w4 (rb + 1) SA sc st.si) := Lib.hid (by rw [hw4]; exact OwnL.alloc HO3.out _)
  clear hw4
  refine oneL 11 rfl (by kernel_rfl) (by rfl) ?_
  refine op_appSi (.tmp 10) (.tmp 16) (by rfl) (rb + 1) (l := st.si) (by rfl) HO4.out (l2 := [(t.f, t.t)]) (A2 := some ⟨w3.heap.size, 0, none⟩) (c := 1) (B := w3.heap.size + 1) (by rfl) HN4.out (by simp; omega) (Nat.le_trans (Nat.succ_le_of_lt HR3.out.lt) HB4.out.size) ?_
  intro A7 c7 w7 hown7 hg7 hA7
  rw [show st.si.length + [(t.f, t.t)].length = st.si.length + 1 from rfl] at hA7 ⊢
  have hfr : Fr (fun k => (Value.slice SA st.si.length sc).ownBlock = some k) w4 w7 := Fr.grown hg7 fun k e => e
  have HR7 : Hid (RdAt w7 rb A L.length c st.pos (s0 + (st.si.length : Int)) SA st.si.length sc) := Lib.hid ((hfr.block rb (Nat.lt_of_lt_of_le HR3.out.lt HB4.out.size) fun e => Nat.lt_irrefl _ (HSA.out _ e).1).trans (HR3.out.later HB4.out))
  have HK7 : Hid (KAt w7 w1.heap.size t.k t.s t.f t.t) := Lib.hid ((hfr.block w1.heap.size (Nat.lt_of_lt_of_le HK3.out.lt HB4.out.size) fun e => Nat.lt_irrefl _ (HSA.out _ e).2).trans (HK3.out.later HB4.out))
  have SS7 := HSof.out _ HR7.out HK7.out
  have H7 := Lib.hid (And.intro hown7 (And.intro hg7 hA7))
  clear hown7 hg7 hA7 hfr
  refine ⟨fun _ => SS7, ?_⟩
  refine putA ?_
  refine onA 12 [13, 14] (some 18) rfl rfl ?_
  refine onA 13 [14] (some 19) rfl rfl ?_
  have kf := HR7.out.fz
  have ka := HR7.out.at_
  refine skipL 14 none (w' := ?_) rfl rfl (by kernel_rfl) (by rfl) ?_ (zL (by kernel_rfl)) ?_
  rotate_left
  · (go_simp; try with_reducible rfl)
  refine putA ?_
  refine doneL (by kernel_rfl) ?_ _
  clear kf ka
  obtain ⟨w8, hw8⟩ : ∃ w8, w8 = w7.setCell ⟨rb, 3, none⟩ (.slice A7 (st.si.length + 1) c7) := ⟨_, rfl⟩
  rw [← hw8]
  have HR8 : Hid (RdAt w8 rb A L.length c st.pos (s0 + (st.si.length : Int)) A7 (st.si.length + 1) c7) := Lib.hid (by rw [hw8]; exact HR7.out.setA A7 (st.si.length + 1) c7)
  have HO8 : Hid (OwnSi w8 (rb + 1) A7 c7 (st.si ++ [(t.f, t.t)])) := Lib.hid (by rw [hw8]; exact OwnL.fr (Y := fun k => k = rb) H7.out.1 (Fr.setCell (X := fun k => k = rb) (Fr.refl _ _) (.inl rfl) _) fun b hb => by omega)
  have HF8 : Hid (Fr (XS rb SA) w4 w8) := Lib.hid (by
    rw [hw8]
    exact Fr.setCell (Fr.grown H7.out.2.1 fun k e => by
      obtain ⟨a, ha, hb⟩ := ownBlock_of e
      exact .inr ⟨a, ha, hb⟩) (.inl (.inl rfl)) _)
  clear hw8
  have k1 := HR8.out.at_
  have k2 := HR8.out.fz
  have e1 : IntKind.i64.wrap ((st.pos : Int) + 1) = (st.pos : Int) + 1 := IntWalk.i64_in _ (by omega)
  have e2 : IntKind.i64.wrap (s0 + (st.si.length : Int) + 1) = s0 + (st.si.length : Int) + 1 := IntWalk.i64_in _ (by omega)
  have e3 : IntKind.i64.wrap (s0 + (st.si.length : Int) + 1 - 1) = s0 + (st.si.length : Int) := (IntWalk.i64_in _ (by omega)).trans (by omega)
  go_wp2_with fail
  go_ret
  have hl : (st.si ++ [((hereT L st.pos).f, (hereT L st.pos).t)]).length = st.si.length + 1 := by simp
  have hF : Fr (XS rb SA) w w8 := (Fr.below (ext_trans HB3.out HB4.out)).trans HF8.out
  have hF10 := ((hF.setCell (p := ⟨rb, 1, none⟩) (.inl (.inl rfl)) (.int .i64 ((st.pos : Int) + 1))).setCell (p := ⟨rb, 2, none⟩) (.inl (.inl rfl)) (.int .i64 (s0 + (st.si.length : Int) + 1))).alloc (.cells #[.int .i64 0, .string ByteArray.empty, .int .i64 (s0 + (st.si.length : Int))] 48)
  have hS10 : RStep rb SA A7 w _ := ⟨hF10, fun a ha => by
    rcases H7.out.2.2 with e | e
    · rw [ha] at e
      obtain ⟨a', ha', hb'⟩ := ownBlock_of e.symm
      exact .inl (.inr ⟨a', ha', hb'⟩)
    · rw [ha] at e
      have e2 : a.block = w4.heap.size := Option.some.inj e
      have := HB3.out.size
      have := HB4.out.size
      exact .inr (by omega)⟩
  refine ⟨some ⟨w8.heap.size, 0, none⟩, 1, A7, c7, rfl, ⟨⟨?_, ReadL.below H.out.m.k (hS10.under H.out.m.r.lt fun a ha => (OwnL.lt H.out.o a ha).1), H.out.m.l⟩, ?_⟩, ⟨?_, ?_, ?_, ?_⟩, hS10⟩
  · dsimp only
    rw [hl, show s0 + ((st.si.length + 1 : Nat) : Int) = s0 + (st.si.length : Int) + 1 by omega]
    exact ((HR8.out.setP ((st.pos : Int) + 1)).setS (s0 + (st.si.length : Int) + 1)).later ((Below.refl _ _).alloc (Nat.le_refl _) _)
  · dsimp only
    rw [← HT.out]
    exact OwnL.alloc (OwnL.fr (Y := fun k => k = rb) HO8.out (Fr.setCell (X := fun k => k = rb) (Fr.setCell (X := fun k => k = rb) (Fr.refl _ _) (.inl rfl) _) (.inl rfl) _) fun b hb => by omega) _
  · have hz : ((w8.setCell ⟨rb, 1, none⟩ (.int .i64 ((st.pos : Int) + 1))).setCell ⟨rb, 2, none⟩ (.int .i64 (s0 + (st.si.length : Int) + 1))).heap.size = w8.heap.size := by simp [World.setCell]
    have h := tyA_new ((w8.setCell ⟨rb, 1, none⟩ (.int .i64 ((st.pos : Int) + 1))).setCell ⟨rb, 2, none⟩ (.int .i64 (s0 + (st.si.length : Int) + 1))) ⟨0, ByteArray.empty, s0 + (st.si.length : Int)⟩
    rw [hz] at h
    exact TyA.more h (by simp [World.alloc, World.setCell])
  · intro a ha
    cases ha
    exact hF.size
  · intro a ha
    cases ha
    simp [World.alloc, World.setCell]
  · intro a ha b hb
    cases ha
    exact Nat.ne_of_lt (OwnL.lt HO8.out b hb).2
end Go.Proofs.Ytblfeokjlecgkaa

/- Types that are read from tokens: how far the reader goes, and how long what it reads is. -/
namespace Go.Proofs.Ytblfeokjlecgkaa

/-- What is read is no longer than the tokens that it took. -/
structure FitsR (L : List Tk) (st : RS) (t : List Nd) (st2 : RS) : Prop where
  ne : t ≠ []
  le : st.pos + t.length ≤ st2.pos
  top : st2.pos ≤ L.length
  si : ∃ m, st2.si = st.si ++ m ∧ st.pos + m.length ≤ st2.pos
def GoodR (L : List Tk) (st : RS) : RRes → Prop
  | .ok t st2 => FitsR L st t st2
  | .bad p _ => p ≤ L.length
def GoodW (L : List Tk) (W : RS → RRes) : Prop := ∀ st, st.pos ≤ L.length → GoodR L st (W st)
def GoodO (L : List Tk) (W : Option (RS → RRes)) : Prop := ∀ W', W = some W' → GoodW L W'

theorem hereT_lt {L : List Tk} {p : Nat} (h : (hereT L p).k ≠ 0) : p < L.length := by
  by_cases hp : p < L.length
  · exact hp
  · exfalso
    apply h
    simp [hereT, List.getElem?_eq_none (Nat.le_of_not_lt hp)]
theorem isS_lt {L : List Tk} {p : Nat} {s : ByteArray} (h : isS L p s = true) : p < L.length := by
  unfold isS at h
  simp only [Bool.and_eq_true, beq_iff_eq] at h
  exact hereT_lt (by rw [h.1]; decide)
theorem namesB_lt {L : List Tk} {p : Nat} {k : Int} (hk : k ≠ 0) (h : namesB k (hereT L p) = true) : p < L.length := by
  unfold namesB at h
  simp only [Bool.and_eq_true, beq_iff_eq] at h
  exact hereT_lt (by rw [h.1]; exact hk)

def totP (fs : List (ByteArray × List Nd)) : Nat := (fs.map fun p => p.2.length).sum
theorem nameR_len (s : ByteArray) (xs : List Nd) : (nameR s xs).length = xs.length := by
  cases xs <;> rfl
theorem flat_len (l : List (ByteArray × List Nd)) : (l.flatMap fun p => nameR p.1 p.2).length = totP l := by
  induction l with
  | nil => rfl
  | cons p l ih => simp only [List.flatMap_cons, List.length_append, nameR_len, ih, totP, List.map_cons, List.sum_cons]
theorem totP_ins (p : ByteArray × List Nd) (l : List (ByteArray × List Nd)) : totP (insP p l) = p.2.length + totP l := by
  induction l with
  | nil => simp [insP, totP]
  | cons q l ih =>
    unfold insP
    by_cases h : ltB p.1 q.1 = true
    · simp [h, totP]
    · simp only [h, Bool.false_eq_true, if_false]
      have e : totP (q :: insP p l) = q.2.length + totP (insP p l) := by simp [totP]
      have e2 : totP (q :: l) = q.2.length + totP l := by simp [totP]
      rw [e, ih, e2]
      omega
theorem totP_srt (l acc : List (ByteArray × List Nd)) : totP (l.foldl (fun a p => insP p a) acc) = totP l + totP acc := by
  induction l generalizing acc with
  | nil => simp [totP]
  | cons p l ih =>
    rw [List.foldl_cons, ih, totP_ins]
    have e2 : totP (p :: l) = p.2.length + totP l := by simp [totP]
    omega
theorem rowL_len (k : Int) (fs : List (ByteArray × List Nd)) : (rowL k fs).length = totP fs + 1 := by
  unfold rowL srtP
  rw [List.length_cons, flat_len, totP_srt]
  simp [totP]
theorem totP_app (fs : List (ByteArray × List Nd)) (s : ByteArray) (t : List Nd) : totP (fs ++ [(s, t)]) = totP fs + t.length := by simp [totP]

/-- What a row comes to. -/
def GoodRw (L : List Tk) (fs : List (ByteArray × List Nd)) (st : RS) : RRes → Prop
  | .ok t st2 => t ≠ [] ∧ st.pos + t.length ≤ totP fs + 1 + st2.pos ∧ st2.pos ≤ L.length ∧ ∃ m, st2.si = st.si ++ m ∧ st.pos + m.length ≤ st2.pos
  | .bad p _ => p ≤ L.length
theorem rowF_good {L : List Tk} {W : RS → RRes} (hW : GoodW L W) (k lk : Int) (hk : lk ≠ 0) (btw fin : ByteArray) : ∀ (f : Nat) (fs : List (ByteArray × List Nd)) (st : RS), st.pos ≤ L.length → GoodRw L fs st (rowF L W k lk btw fin f fs st) := by
  intro f
  induction f with
  | zero => intro fs st hp; exact hp
  | succ f ih =>
    intro fs st hp
    unfold rowF
    split
    · exact hp
    · rename_i hn
      split
      · exact hp
      · split
        · exact hp
        · have hn2 := namesB_lt hk (by simpa using hn)
          split
          · exact hn2
          · rename_i hc
            have hc2 := isS_lt (by simpa using hc)
            have hg := hW ⟨st.pos + 2, st.si⟩ (by dsimp only; omega)
            split
            · rename_i p e he
              rw [he] at hg
              exact hg
            · rename_i t st2 he
              rw [he] at hg
              obtain ⟨h1, h2, h3, m, h4, h5⟩ := hg
              dsimp only at h2 h4 h5
              split
              · rename_i hb
                have hb2 := isS_lt hb
                have h6 := ih (fs ++ [((hereT L st.pos).s, t)]) ⟨st2.pos + 1, st2.si⟩ (by dsimp only; omega)
                cases hr : rowF L W k lk btw fin f (fs ++ [((hereT L st.pos).s, t)]) ⟨st2.pos + 1, st2.si⟩ with
                | bad p e => rw [hr] at h6; exact h6
                | ok t3 st3 =>
                  rw [hr] at h6
                  obtain ⟨g1, g2, g3, m2, g4, g5⟩ := h6
                  dsimp only at g2 g4 g5
                  rw [totP_app] at g2
                  refine ⟨g1, by omega, g3, m ++ m2, by rw [g4, h4, List.append_assoc], by rw [List.length_append]; omega⟩
              · split
                · rename_i hf
                  have hf2 := isS_lt hf
                  refine ⟨by simp [rowL], ?_, hf2, m, h4, by dsimp only; omega⟩
                  dsimp only
                  rw [rowL_len, totP_app]
                  omega
                · exact h3

theorem atomF_good {L : List Tk} {s0 : Int} {W : Option (RS → RRes)} (hW : GoodO L W) (st : RS) (hp : st.pos ≤ L.length) : GoodR L st (atomF L s0 W st) := by
  unfold atomF
  split
  · rename_i k hk
    have : (hereT L st.pos).k ≠ 0 := by
      intro e
      rw [e] at hk
      simp at hk
    have h1 := hereT_lt this
    exact ⟨by simp, by simp, h1, [], by simp, by simp⟩
  · split
    · rename_i h
      have h1 := isS_lt h
      exact ⟨by simp, by simp, h1, [((hereT L st.pos).f, (hereT L st.pos).t)], rfl, by simp⟩
    · split
      · rename_i h
        have h1 := isS_lt h
        split
        · exact hp
        · rename_i _ W'
          have hg := hW W' rfl ⟨st.pos + 1, st.si⟩ (by dsimp only; omega)
          split
          · rename_i p e he
            rw [he] at hg
            exact hg
          · rename_i t st2 he
            rw [he] at hg
            obtain ⟨g1, g2, g3, m, g4, g5⟩ := hg
            dsimp only at g2 g4 g5
            split
            · rename_i hc
              have hc2 := isS_lt hc
              exact ⟨g1, by dsimp only; omega, hc2, m, g4, by dsimp only; omega⟩
            · exact g3
      · split
        · rename_i h
          have h1 := isS_lt h
          split
          · exact hp
          · rename_i _ W'
            split
            · rename_i hc
              have hc2 := isS_lt hc
              exact ⟨by simp, by simp, hc2, [], by simp, by simp⟩
            · have hg := rowF_good (hW W' rfl) 6 1 (by decide) sCo sRb (L.length + 1) [] ⟨st.pos + 1, st.si⟩ (by dsimp only; omega)
              cases hr : rowF L W' 6 1 sCo sRb (L.length + 1) [] ⟨st.pos + 1, st.si⟩ with
              | bad p e => rw [hr] at hg; exact hg
              | ok t3 st3 =>
                rw [hr] at hg
                obtain ⟨g1, g2, g3, m2, g4, g5⟩ := hg
                dsimp only at g2 g4 g5
                have : totP [] = 0 := rfl
                exact ⟨g1, by omega, g3, m2, g4, by omega⟩
        · split
          · rename_i h
            have h1 := isS_lt h
            split
            · exact hp
            · rename_i _ W'
              have hg := rowF_good (hW W' rfl) 7 2 (by decide) sBar sRk (L.length + 1) [] ⟨st.pos + 1, st.si⟩ (by dsimp only; omega)
              cases hr : rowF L W' 7 2 sBar sRk (L.length + 1) [] ⟨st.pos + 1, st.si⟩ with
              | bad p e => rw [hr] at hg; exact hg
              | ok t3 st3 =>
                rw [hr] at hg
                obtain ⟨g1, g2, g3, m2, g4, g5⟩ := hg
                dsimp only at g2 g4 g5
                have : totP [] = 0 := rfl
                exact ⟨g1, by omega, g3, m2, g4, by omega⟩
          · exact hp

theorem arrF_good {L : List Tk} {W : Option (RS → RRes)} (hW : GoodO L W) {st : RS} {r : RRes} (hr : GoodR L st r) : GoodR L st (arrF L W r) := by
  unfold arrF
  split
  · exact hr
  · rename_i a st1
    obtain ⟨g1, g2, g3, m, g4, g5⟩ := hr
    split
    · rename_i h
      have h1 := isS_lt h
      split
      · exact g3
      · rename_i _ W'
        have hg := hW W' rfl ⟨st1.pos + 1, st1.si⟩ (by dsimp only; omega)
        split
        · rename_i p e he
          rw [he] at hg
          exact hg
        · rename_i t st2 he
          rw [he] at hg
          obtain ⟨k1, k2, k3, m2, k4, k5⟩ := hg
          dsimp only at k2 k4 k5
          exact ⟨by simp [arrowN], by simp [arrowN]; omega, k3, m ++ m2, by rw [k4, g4, List.append_assoc], by rw [List.length_append]; omega⟩
    · exact ⟨g1, g2, g3, m, g4, g5⟩

theorem wholeF_good (L : List Tk) (s0 : Int) : ∀ d, GoodW L (wholeF L s0 d) := by
  intro d
  induction d with
  | zero => exact fun st hp => arrF_good (fun _ h => by cases h) (atomF_good (fun _ h => by cases h) st hp)
  | succ d ih =>
    intro st hp
    have hO : GoodO L (some (wholeF L s0 d)) := fun _ h => by cases h; exact ih
    exact arrF_good hO (atomF_good hO st hp)
theorem downF_good (L : List Tk) (s0 : Int) (d : Nat) : GoodO L (downF L s0 d) := fun W h => by
  cases d with
  | zero => cases h
  | succ d => cases h; exact wholeF_good L s0 d

end Go.Proofs.Ytblfeokjlecgkaa
