/- term.Put, walked. -/
import Derived.Test.YtblfeokjlecgkaaGreatPutC
namespace Go.Proofs.YtblfeokjlecgkaaGreat
open Go.RowKit

theorem penv_made (w : World) (n : Int) (U : Option Addr) (uc : Nat) (u : List Nd) :
    PEnv2 (((((w.alloc (.cells #[.int .i64 n] 3)).alloc (.cells #[.slice U u.length uc] 23)).alloc (.cells #[.bool false, .bool false, .bool false] 56)).alloc
        (.cells #[.func (.func 35) #[] #[.pointer (some ⟨w.heap.size, 0, none⟩), .pointer (some ⟨w.heap.size + 1, 0, none⟩), .pointer (some ⟨w.heap.size + 1 + 1 + 1, 0, none⟩), .pointer (some ⟨w.heap.size + 1 + 1 + 1 + 1, 0, none⟩)]] 33)).alloc
        (.cells #[.func (.func 31) #[] #[.pointer (some ⟨w.heap.size, 0, none⟩), .pointer (some ⟨w.heap.size + 1 + 1, 0, none⟩), .pointer (some ⟨w.heap.size + 1, 0, none⟩)]] 61))
      n U uc u w.heap.size (w.heap.size + 1 + 1) (w.heap.size + 1) (w.heap.size + 1 + 1 + 1) (w.heap.size + 1 + 1 + 1 + 1) false false false :=
  by
  have past : ∀ (v : World) (o : Obj) (b i : Nat), b < v.heap.size → (v.alloc o).cell? ⟨b, i, none⟩ = v.cell? ⟨b, i, none⟩ := fun v o b i h => World.cell?_alloc_lt v o ⟨b, i, none⟩ h
  have pastf : ∀ (v : World) (o : Obj) (b i : Nat), b < v.heap.size → (v.alloc o).frozen? ⟨b, i, none⟩ = v.frozen? ⟨b, i, none⟩ := fun v o b i h => World.frozen?_alloc_past o b i h
  have at_ : ∀ (v : World) (c : Array Value) (ty b i : Nat), b = v.heap.size → (v.alloc (.cells c ty)).cell? ⟨b, i, none⟩ = c[i]? := fun v c ty b i h => World.cell?_alloc_at c ty b i h
  have atf : ∀ (v : World) (c : Array Value) (ty b i : Nat), b = v.heap.size → (v.alloc (.cells c ty)).frozen? ⟨b, i, none⟩ = false := fun v c ty b i h => World.frozen?_alloc_at c ty b i h
  refine ⟨⟨?_, ?_, ?_, ?_, ?_, ?_, ?_, ?_, ?_, ?_, ?_, ?_, ?_⟩, ?_, ?_, ?_, ?_, ?_, ?_⟩
  · rw [past _ _ _ _ (by (try simp); (try omega)), past _ _ _ _ (by (try simp); (try omega)), past _ _ _ _ (by (try simp); (try omega)), past _ _ _ _ (by (try simp); (try omega)), at_ _ _ _ _ _ rfl]; rfl
  · rw [past _ _ _ _ (by (try simp); (try omega)), past _ _ _ _ (by (try simp); (try omega)), past _ _ _ _ (by (try simp); (try omega)), at_ _ _ _ _ _ (by (try simp); (try omega))]; rfl
  · rw [past _ _ _ _ (by (try simp); (try omega)), past _ _ _ _ (by (try simp); (try omega)), at_ _ _ _ _ _ (by (try simp); (try omega))]; rfl
  · rw [past _ _ _ _ (by (try simp); (try omega)), past _ _ _ _ (by (try simp); (try omega)), at_ _ _ _ _ _ (by (try simp); (try omega))]; rfl
  · rw [past _ _ _ _ (by (try simp); (try omega)), past _ _ _ _ (by (try simp); (try omega)), at_ _ _ _ _ _ (by (try simp); (try omega))]; rfl
  · rw [pastf _ _ _ _ (by (try simp); (try omega)), pastf _ _ _ _ (by (try simp); (try omega)), atf _ _ _ _ _ (by (try simp); (try omega))]
  · rw [pastf _ _ _ _ (by (try simp); (try omega)), pastf _ _ _ _ (by (try simp); (try omega)), atf _ _ _ _ _ (by (try simp); (try omega))]
  · rw [pastf _ _ _ _ (by (try simp); (try omega)), pastf _ _ _ _ (by (try simp); (try omega)), atf _ _ _ _ _ (by (try simp); (try omega))]
  · (try simp); (try omega)
  · (try simp); (try omega)
  · (try simp); (try omega)
  · omega
  · omega
  · rw [past _ _ _ _ (by (try simp); (try omega)), at_ _ _ _ _ _ (by (try simp); (try omega))]; rfl
  · rw [at_ _ _ _ _ _ (by (try simp); (try omega))]; rfl
  · (try simp); (try omega)
  · (try simp); (try omega)
  · omega
  · omega

theorem below_made5 (w : World) (a b c d e : Obj) : Below w.heap.size w (((((w.alloc a).alloc b).alloc c).alloc d).alloc e) :=
  ext_alloc (ext_alloc (ext_alloc (ext_alloc (ext_alloc (Below.refl _ _) _) _) _) _) _

theorem rest1_sub {xs : List Nd} {z : Nd} (h : z ∈ rest1 xs) : z ∈ xs := by
  unfold rest1 at h
  cases e : skip xs 1 with
  | none => rw [e] at h; simp at h
  | some ys =>
    rw [e] at h
    obtain ⟨ps, rfl, _⟩ := skip_split _ _ _ e
    exact List.mem_append_right _ h

theorem splitF_sub : ∀ (d : Nat) (ks ts : List Nd) (z : Nd), ts ∈ splitF d ks → z ∈ ts → z ∈ ks
  | 0, ks, ts, z, h, _ => by simp [splitF] at h
  | d + 1, ks, ts, z, h, hz => by
    simp only [splitF, List.mem_cons] at h
    rcases h with rfl | h
    · exact List.mem_of_mem_take hz
    · exact rest1_sub (splitF_sub d _ _ _ h hz)

/-- Labels come from what came in. -/
theorem put_labels (n : Int) (u : List Nd) (utss : List (List Nd)) (hu : ∀ t ∈ utss, ∀ z ∈ t, ∃ y ∈ u, z.s = y.s) : ∀ (f : Nat) (ts : List Nd) (z : Nd), z ∈ (putG n u utss f ts).1 → ∃ y ∈ ts ++ u, z.s = y.s := by
  intro f
  induction f with
  | zero => intro ts z h; simp [putG] at h
  | succ f ih =>
    intro ts z h
    match ts, h with
    | [], h => simp [putG] at h
    | x :: ks, h =>
      have hk : ∀ o ∈ ((splitF (manyN x) ks).map (putG n u utss f)).map (·.1), ∀ z ∈ o, ∃ y ∈ (x :: ks) ++ u, z.s = y.s := by
        intro o ho z hz
        rw [List.map_map] at ho
        obtain ⟨t, ht, rfl⟩ := List.mem_map.1 ho
        obtain ⟨y, hy, e⟩ := ih t z hz
        refine ⟨y, ?_, e⟩
        rcases List.mem_append.1 hy with hy | hy
        · exact List.mem_append_left _ (List.mem_cons_of_mem _ (splitF_sub _ _ _ _ ht hy))
        · exact List.mem_append_right _ hy
      simp only [putG] at h
      split at h
      · cases u with
        | nil => simp [nameN] at h
        | cons y ys =>
          simp only [nameN, List.mem_cons] at h
          rcases h with rfl | h
          · exact ⟨x, by simp, rfl⟩
          · exact ⟨z, by simp [h], rfl⟩
      · split at h
        · unfold rowOut at h
          split at h
          · simp only [List.mem_cons, List.mem_flatten, List.mem_append] at h
            rcases h with rfl | ⟨o, ho, hz⟩
            · exact ⟨x, by simp, rfl⟩
            · rcases ho with ho | ho
              · rcases List.mem_append.1 ((srtT_perm _).mem_iff.1 ho) with ho | ho
                · exact hk o (mem_lOf ho) z hz
                · obtain ⟨y, hy, e⟩ := hu o (mem_lOf ho) z hz
                  exact ⟨y, List.mem_append_right _ hy, e⟩
              · obtain ⟨y, hy, e⟩ := hu o (mem_tOf ho) z hz
                exact ⟨y, List.mem_append_right _ hy, e⟩
          · simp only [List.mem_cons, List.mem_flatten] at h
            rcases h with rfl | ⟨o, ho, hz⟩
            · exact ⟨x, by simp, rfl⟩
            · exact hk o ho z hz
        · simp only [List.mem_cons, List.mem_flatten] at h
          rcases h with rfl | ⟨o, ho, hz⟩
          · exact ⟨z, by simp, rfl⟩
          · exact hk o ho z hz

/-- The error of a put. -/
def putErr (r : List Nd × Bool × Bool × Bool) : Int := if r.2.1 = true then 1 else if r.2.2.1 = true then 7 else if r.2.2.2 = true then 3 else if rightB r.1 = true then 0 else 4

def PutRes (w : World) (r : List Nd × Bool × Bool × Bool) (e : Ending) (w' : World) : Prop := Below w.heap.size w w' ∧
  ((putErr r = 0 ∧ ∃ A' c', e = .returned (.tuple #[.slice A' r.1.length c', .int .i64 0]) ∧ OwnN w' w.heap.size A' c' r.1) ∨ (putErr r ≠ 0 ∧ e = .returned (.tuple #[.slice none 0 0, .int .i64 (putErr r)])))

set_option maxRecDepth 100000 in
set_option maxHeartbeats 4000000 in
theorem put_any (A U : Option Addr) (c uc : Nat) (ts u : List Nd) (utss : List (List Nd)) (n : Int) (w : World) (ha : TyA w w.heap.size A ts) (hu : TyA w w.heap.size U u) (hf : Fo 1 ts) (hok : okAll ts) (hc : ts.length ≤ c) (huo : UOk uc u utss)
    (hsz : ts.length * (u.length + 1) ≤ 800000) (hs : ∀ x ∈ ts ++ u, x.s.size ≤ 9223372036854775807) :
    Calls Tryz.prog 18 #[.slice A ts.length c, .int .i64 n, .slice U u.length uc] w (PutRes w (putT n u utss ts)) := by
  have hb5 := fun a b c d e => below_made5 w a b c d e
  have hpc := Lib.hid (fun w' (hb : Below w.heap.size w w') (he : PEnv2 w' n U uc u w.heap.size (w.heap.size + 1 + 1) (w.heap.size + 1) (w.heap.size + 1 + 1 + 1) (w.heap.size + 1 + 1 + 1 + 1) false false false) =>
    putC_any n U uc u utss w.heap.size (w.heap.size + 1 + 1) (w.heap.size + 1) (w.heap.size + 1 + 1 + 1) (w.heap.size + 1 + 1 + 1 + 1) w.heap.size huo (by omega) ts.length A c ts false false false w' (Nat.le_refl _) hf hok (ha.below hb) (hu.below hb) hc hsz he)
  have Hs := Lib.hid hs
  have Hb5 := Lib.hid hb5
  have hut : Hid (∀ t ∈ utss, ∀ z ∈ t, ∃ y ∈ u, z.s = y.s) := Lib.hid fun t ht z hz => by
    obtain ⟨y, uks, rfl, _, _, h⟩ := huo.ex
    exact ⟨z, List.mem_cons_of_mem _ (by rw [← h.flat]; exact List.mem_flatten.2 ⟨t, ht, hz⟩), rfl⟩
  clear hs hb5 ha hu hf hok
  go_enter Tryz.func18, Tryz.ntmps18
  go_wp2_with fail
  refine (hpc.out _ (Hb5.out _ _ _ _ _) (penv_made w n U uc u)).mono ?_
  rintro e w1 ⟨A6, c6, out, k, t, m, rfl, hpg, hown, hg, henv⟩
  have hbel : Below w.heap.size w w1 := (Hb5.out _ _ _ _ _).trans (below_of_only hg (by omega) (by simp; omega))
  have hbase := OwnL.lower hown (Hb5.out _ _ _ _ _).size
  simp only [Bool.false_or] at henv
  have b0 := henv.b0
  have b1 := henv.b1
  have b2 := henv.b2
  have hlb := henv.lb
  have K := Lib.hid (And.intro hpg (And.intro hbase hbel))
  clear hpg hown hg henv hpc hbel hbase
  go_wp2_with fail
  refine (wrongError_any k t m _).mono ?_
  rintro e w2 ⟨rfl, hb2⟩
  have K2 := Lib.hid (And.intro (OwnL.below K.out.2.1 hb2 (Nat.le_refl _)) (ext_trans K.out.2.2 hb2))
  clear hb2 b0 b1 b2
  cases k
  · cases t
    · cases m
      · have hoe := K.out.1.eq rfl rfl
        have hlen : out.length ≤ 800000 := Nat.le_trans K.out.1.len hsz
        have hr := right_any A6 c6 out w2 (OwnL.tyA K2.out.1) (by omega) (fun z hz => by
          rw [hoe] at hz
          obtain ⟨y, hy, e⟩ := put_labels n u utss hut.out _ _ _ hz
          rw [e]
          exact Hs.out y hy)
        have hput : putT n u utss ts = (out, false, false, false) := by
          have h0 := K.out.1.eq rfl rfl
          have h1 := K.out.1.k
          have h2 := K.out.1.t
          have h3 := K.out.1.m
          unfold putT
          generalize putG n u utss ts.length ts = r at h0 h1 h2 h3 ⊢
          obtain ⟨r1, r2, r3, r4⟩ := r
          simp at h0 h1 h2 h3
          rw [h0, h1, h2, h3]
        have Hr := Lib.hid hr
        have Hput := Lib.hid hput
        clear hr hput hoe
        go_wp2_with fail
        refine Hr.out.mono ?_
        rintro e w3 ⟨rfl, hb3⟩
        have K3 := Lib.hid (And.intro (OwnL.below K2.out.1 hb3 (Nat.le_refl _)) (ext_trans K2.out.2 hb3))
        clear hb3 Hr
        cases hrb : rightB out
        · have HR := Lib.hid hrb
          go_wp2_with fail
          go_ret2
          have e : putErr (putT n u utss ts) = 4 := by rw [Hput.out]; simp [putErr, HR.out]
          refine ⟨K3.out.2, .inr ⟨by rw [e]; decide, by rw [e]; rfl⟩⟩
        · have HR := Lib.hid hrb
          go_wp2_with fail
          go_ret2
          have e : putErr (putT n u utss ts) = 0 := by rw [Hput.out]; simp [putErr, HR.out]
          refine ⟨K3.out.2, .inl ⟨e, A6, c6, by rw [Hput.out]; rfl, by rw [Hput.out]; exact K3.out.1⟩⟩
      · go_wp2_with fail
        go_ret2
        have e : putErr (putT n u utss ts) = 3 := by
          have h1 := K.out.1.k
          have h2 := K.out.1.t
          have h3 := K.out.1.m
          unfold putErr putT
          rw [← h1, ← h2, ← h3]
          rfl
        exact ⟨K2.out.2, .inr ⟨by rw [e]; decide, by rw [e]; rfl⟩⟩
    · go_wp2_with fail
      go_ret2
      have e : putErr (putT n u utss ts) = 7 := by
        have h1 := K.out.1.k
        have h2 := K.out.1.t
        unfold putErr putT
        rw [← h1, ← h2]
        rfl
      exact ⟨K2.out.2, .inr ⟨by rw [e]; decide, by rw [e]; rfl⟩⟩
  · go_wp2_with fail
    go_ret2
    have e : putErr (putT n u utss ts) = 1 := by
      have h1 := K.out.1.k
      unfold putErr putT
      rw [← h1]
      rfl
    exact ⟨K2.out.2, .inr ⟨by rw [e]; decide, by rw [e]; rfl⟩⟩
end Go.Proofs.YtblfeokjlecgkaaGreat
