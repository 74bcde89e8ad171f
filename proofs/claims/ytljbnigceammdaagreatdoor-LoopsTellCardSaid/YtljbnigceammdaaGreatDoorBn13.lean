/-
  Sa: what the claim uses of them.
-/
import Derived.Test.YtljbnigceammdaaGreatDoorBn12
namespace Go.Proofs.YtljbnigceammdaaGreatDoor
open Go.RowKit
theorem sub_lenS : ∀ {l m : List Int}, l.Nodup → (∀ x ∈ l, x ∈ m) → l.length ≤ m.length
  | [], _, _, _ => Nat.zero_le _
  | a :: l, m, hd, h => by
    have hd := List.nodup_cons.1 hd
    have ha := h a (List.mem_cons_self ..)
    have h1 := sub_lenS (l := l) (m := m.erase a) hd.2 fun x hx => (List.mem_erase_of_ne (fun e : x = a => hd.1 (by rw [← e]; exact hx))).2 (h x (List.mem_cons_of_mem _ hx))
    rw [List.length_erase_of_mem ha] at h1
    have := List.length_pos_of_mem ha
    rw [List.length_cons]; omega
/-- b is reached from a. -/
inductive Rx (nx : Int → List Int) : Int → Int → Prop where
  | refl (a : Int) : Rx nx a a
  | step {a b c : Int} (h : Rx nx a b) (hc : c ∈ nx b) : Rx nx a c
theorem Rx.trans {nx : Int → List Int} {a b c : Int} (h1 : Rx nx a b) (h2 : Rx nx b c) : Rx nx a c := by
  induction h2 with
  | refl => exact h1
  | step _ hc ih => exact .step ih hc
theorem Rx.one {nx : Int → List Int} {a b : Int} (h : b ∈ nx a) : Rx nx a b := .step (.refl a) h
/-- A function that is changed at one place. -/
def updI (f : Int → Int) (a v : Int) : Int → Int := fun y => if y = a then v else f y
theorem updI_ne {f : Int → Int} {a v y : Int} (h : y ≠ a) : updI f a v y = f y := if_neg h
theorem updI_eq {f : Int → Int} {a v : Int} : updI f a v a = v := if_pos rfl
/-- Parts that were told: each is connected, and leads to itself and to earlier ones. -/
structure POk (n : Nat) (nx : Int → List Int) (P : List (List Int)) : Prop where
  ne : ∀ p ∈ P, p ≠ []
  node : ∀ p ∈ P, ∀ x ∈ p, 0 ≤ x ∧ x < (n : Int)
  nd : P.flatten.Nodup
  srt : ∀ p ∈ P, p.Pairwise (· < ·)
  con : ∀ p ∈ P, ∀ x ∈ p, ∀ y ∈ p, Rx nx x y
  clo : ∀ (i : Nat) (p : List Int), P[i]? = some p → ∀ x ∈ p, ∀ y ∈ nx x, ∃ (j : Nat) (q : List Int), j ≤ i ∧ P[j]? = some q ∧ y ∈ q
theorem POk.nil (n : Nat) (nx : Int → List Int) : POk n nx [] := ⟨fun _ h => (by cases h), fun _ h => (by cases h), List.nodup_nil, fun _ h => (by cases h), fun _ h => (by cases h), fun i p h => by simp at h⟩
/-- Whatever is reached from a part that was told was told. -/
theorem POk.reach {n : Nat} {nx : Int → List Int} {P : List (List Int)} (h : POk n nx P) {x y : Int} (hr : Rx nx x y) (hx : ∃ p ∈ P, x ∈ p) : ∃ p ∈ P, y ∈ p := by
  induction hr with
  | refl => exact hx
  | step _ hc ih =>
    obtain ⟨p, hp, hb⟩ := ih
    obtain ⟨i, hi⟩ := List.getElem?_of_mem hp
    obtain ⟨j, q, _, hq, hy⟩ := h.clo i p hi _ hb _ hc
    exact ⟨q, List.mem_of_getElem? hq, hy⟩
/-- How Tarjan's walk stands: f tells when a node was entered, L how low it leads; the stack, the count, the parts; the nodes on the way. -/
structure TJ (n : Nat) (nx : Int → List Int) (f L : Int → Int) (st : List Int) (cnt : Nat) (P : List (List Int)) (W : List Int) : Prop where
  node : ∀ x ∈ st, 0 ≤ x ∧ x < (n : Int)
  inc : st.Pairwise fun x y => f x < f y
  rng : ∀ x ∈ st, 1 ≤ f x ∧ f x ≤ cnt
  vis : ∀ x : Int, 0 ≤ x → x < n → (f x ≠ 0 ↔ x ∈ st ∨ ∃ p ∈ P, x ∈ p)
  dis : ∀ p ∈ P, ∀ x ∈ p, x ∉ st
  len : cnt = st.length + P.flatten.length
  sub : W.Sublist st
  top : ∀ x ∈ st, ∃ v ∈ W, f v ≤ f x
  rch : ∀ v ∈ W, ∀ x ∈ st, f v ≤ f x → Rx nx v x
  fin : ∀ x ∈ st, x ∉ W → (∀ y ∈ nx x, f y ≠ 0) ∧ ∃ y ∈ st, f y < f x ∧ Rx nx x y
  low : ∀ v ∈ W, L v ≤ f v ∧ ∃ y ∈ st, f y = L v ∧ Rx nx v y
  seg : ∀ v ∈ W, ∀ x ∈ st, x ∉ W → f v < f x → (∀ u ∈ W, f u ≤ f x → f u ≤ f v) → ∀ y ∈ nx x, y ∈ st → L v ≤ f y
  prt : POk n nx P
/-- Which edges of the nodes on the way were looked at. -/
def Prc (nx : Int → List Int) (f L : Int → Int) (st : List Int) (way : List (Int × Nat)) : Prop := ∀ t ∈ way, ∀ y ∈ (nx t.1).take t.2, f y ≠ 0 ∧ (y ∈ st → L t.1 ≤ f y)
theorem inj_of_inc {f : Int → Int} : ∀ {st : List Int}, st.Pairwise (fun x y => f x < f y) → ∀ {x y : Int}, x ∈ st → y ∈ st → f x = f y → x = y
  | [], _, _, _, hx, _, _ => by cases hx
  | a :: st, h, x, y, hx, hy, e => by
    obtain ⟨h1, h2⟩ := List.pairwise_cons.1 h
    rcases List.mem_cons.1 hx with e1 | hx1
    · rcases List.mem_cons.1 hy with e2 | hy1
      · rw [e1, e2]
      · have := h1 y hy1; rw [e1] at e; omega
    · rcases List.mem_cons.1 hy with e2 | hy1
      · have := h1 x hx1; rw [e2] at e; omega
      · exact inj_of_inc h2 hx1 hy1 e
theorem nodup_of_inc {f : Int → Int} {st : List Int} (h : st.Pairwise (fun x y => f x < f y)) : st.Nodup := h.imp fun hxy e => by subst e; omega
/-- The last one on the way was entered last of these. -/
theorem last_max {f : Int → Int} {st w : List Int} {v : Int} (h : st.Pairwise (fun x y => f x < f y)) (hs : (w ++ [v]).Sublist st) : ∀ u ∈ w, f u < f v := by
  have := h.sublist hs
  intro u hu
  exact (List.pairwise_append.1 this).2.2 u hu v (List.mem_singleton.2 rfl)
variable {n : Nat} {nx : Int → List Int} {f L : Int → Int} {st : List Int} {cnt : Nat} {P : List (List Int)}
theorem TJ.start (h : ∀ x, f x = 0) : TJ n nx f L [] 0 [] [] :=
  ⟨fun _ h => (by cases h), .nil, fun _ h => (by cases h), fun x _ _ => by simp [h], fun _ h => (by cases h), rfl, .slnil, fun _ h => (by cases h), fun _ h => (by cases h), fun _ h => (by cases h), fun _ h => (by cases h), fun _ h => (by cases h), .nil n nx⟩
/-- A new node is entered: from the last one on the way, or from none. -/
theorem TJ.enter {W : List Int} {b : Int} (h : TJ n nx f L st cnt P W) (hb : 0 ≤ b ∧ b < n) (hf : f b = 0) (hW : ∀ v ∈ W, Rx nx v b) : TJ n nx (updI f b (cnt + 1)) (updI L b (cnt + 1)) (st ++ [b]) (cnt + 1) P (W ++ [b]) := by
  have hbs : b ∉ st := fun hm => by have := h.rng b hm; omega
  have hbW : b ∉ W := fun hm => hbs (h.sub.subset hm)
  have hf1 : ∀ x ∈ st, updI f b (cnt + 1) x = f x := fun x hx => updI_ne fun e => hbs (e ▸ hx)
  have hL1 : ∀ x ∈ W, updI L b (cnt + 1) x = L x := fun x hx => updI_ne fun e => hbW (e ▸ hx)
  have hfb : updI f b (cnt + 1) b = (cnt + 1 : Nat) := by rw [updI_eq]; rfl
  have hWs := h.sub.subset
  refine ⟨fun x hx => ?_, ?_, fun x hx => ?_, fun x h0 h1 => ?_, fun p hp x hx => ?_, by have := h.len; rw [List.length_append, List.length_singleton]; omega, h.sub.append (.refl _), fun x hx => ?_, fun v hv x hx hle => ?_, fun x hx hxW => ?_, fun v hv => ?_, fun v hv x hx hxW hlt how y hy hys => ?_, h.prt⟩
  · rcases List.mem_append.1 hx with hx | hx
    · exact h.node x hx
    · rw [List.mem_singleton.1 hx]; exact hb
  · refine List.pairwise_append.2 ⟨h.inc.imp_of_mem fun {x y} hx hy hxy => ?_, List.pairwise_singleton .., fun x hx y hy => ?_⟩
    · rw [hf1 x hx, hf1 y hy]; exact hxy
    · rw [List.mem_singleton.1 hy, hf1 x hx, hfb]
      have := (h.rng x hx).2; omega
  · rcases List.mem_append.1 hx with hx | hx
    · rw [hf1 x hx]; have := h.rng x hx; omega
    · rw [List.mem_singleton.1 hx, hfb]; omega
  · by_cases e : x = b
    · subst e
      exact ⟨fun _ => .inl (List.mem_append_right _ (List.mem_singleton.2 rfl)), fun _ => by rw [hfb]; omega⟩
    · rw [updI_ne e, h.vis x h0 h1, List.mem_append, List.mem_singleton]
      exact or_congr_left ⟨.inl, fun h => h.resolve_right e⟩
  · rw [List.mem_append, List.mem_singleton]
    rintro (hm | rfl)
    · exact h.dis p hp x hx hm
    · exact ((h.vis x hb.1 hb.2).2 (.inr ⟨p, hp, hx⟩)) hf
  · rcases List.mem_append.1 hx with hx | hx
    · obtain ⟨v, hv, hle⟩ := h.top x hx
      exact ⟨v, List.mem_append_left _ hv, by rw [hf1 v (hWs hv), hf1 x hx]; exact hle⟩
    · rw [List.mem_singleton.1 hx]
      exact ⟨b, List.mem_append_right _ (List.mem_singleton.2 rfl), Int.le_refl _⟩
  · rcases List.mem_append.1 hv with hv | hv
    · rcases List.mem_append.1 hx with hx | hx
      · rw [hf1 v (hWs hv), hf1 x hx] at hle
        exact h.rch v hv x hx hle
      · rw [List.mem_singleton.1 hx]; exact hW v hv
    · rw [List.mem_singleton.1 hv] at hle ⊢
      rcases List.mem_append.1 hx with hx | hx
      · rw [hfb, hf1 x hx] at hle
        have := (h.rng x hx).2; omega
      · rw [List.mem_singleton.1 hx]; exact .refl _
  · rw [List.mem_append, List.mem_singleton] at hxW
    have hx : x ∈ st := by
      rcases List.mem_append.1 hx with hx | hx
      · exact hx
      · exact absurd (.inr (List.mem_singleton.1 hx)) hxW
    obtain ⟨h1, y, hy, h2, h3⟩ := h.fin x hx fun hm => hxW (.inl hm)
    refine ⟨fun y hy => ?_, y, List.mem_append_left _ hy, by rw [hf1 y hy, hf1 x hx]; exact h2, h3⟩
    by_cases e : y = b
    · subst e; rw [hfb]; omega
    · rw [updI_ne e]; exact h1 y hy
  · rcases List.mem_append.1 hv with hv | hv
    · obtain ⟨h1, y, hy, h2, h3⟩ := h.low v hv
      rw [hL1 v hv, hf1 v (hWs hv)]
      exact ⟨h1, y, List.mem_append_left _ hy, by rw [hf1 y hy]; exact h2, h3⟩
    · rw [List.mem_singleton.1 hv, updI_eq, updI_eq]
      exact ⟨Int.le_refl _, b, List.mem_append_right _ (List.mem_singleton.2 rfl), updI_eq, .refl _⟩
  · rw [List.mem_append, List.mem_singleton] at hxW
    have hx : x ∈ st := by
      rcases List.mem_append.1 hx with hx | hx
      · exact hx
      · exact absurd (.inr (List.mem_singleton.1 hx)) hxW
    rcases List.mem_append.1 hv with hv | hv
    · rw [hL1 v hv]
      rw [hf1 v (hWs hv), hf1 x hx] at hlt
      have hyb : y ≠ b := fun e => (h.fin x hx fun hm => hxW (.inl hm)).1 y hy (e ▸ hf)
      have hys : y ∈ st := by
        rcases List.mem_append.1 hys with hys | hys
        · exact hys
        · exact absurd (List.mem_singleton.1 hys) hyb
      rw [hf1 y hys]
      refine h.seg v hv x hx (fun hm => hxW (.inl hm)) hlt (fun u hu hle => ?_) y hy hys
      have := how u (List.mem_append_left _ hu)
      rw [hf1 u (hWs hu), hf1 x hx, hf1 v (hWs hv)] at this
      exact this hle
    · rw [List.mem_singleton.1 hv, hfb, hf1 x hx] at hlt
      have := (h.rng x hx).2; omega
/-- The last one on the way leads to one on the stack. -/
theorem TJ.lower {w : List Int} {v z : Int} (h : TJ n nx f L st cnt P (w ++ [v])) (hz : z ∈ st) (hr : Rx nx v z) : TJ n nx f (updI L v (min (L v) (f z))) st cnt P (w ++ [v]) := by
  have hd : (w ++ [v]).Nodup := (nodup_of_inc h.inc).sublist h.sub
  have hvw : v ∉ w := fun hm => (List.nodup_append.1 hd).2.2 v hm v (List.mem_singleton.2 rfl) rfl
  refine ⟨h.node, h.inc, h.rng, h.vis, h.dis, h.len, h.sub, h.top, h.rch, h.fin, fun u hu => ?_, fun u hu x hx hxW hlt how y hy hys => ?_, h.prt⟩
  · by_cases e : u = v
    · subst e
      rw [updI_eq]
      obtain ⟨h1, y, hy, h2, h3⟩ := h.low u hu
      refine ⟨by omega, ?_⟩
      by_cases c : L u ≤ f z
      · exact ⟨y, hy, by rw [h2]; omega, h3⟩
      · exact ⟨z, hz, by omega, hr⟩
    · rw [updI_ne e]; exact h.low u hu
  · have := h.seg u hu x hx hxW hlt how y hy hys
    by_cases e : u = v
    · subst e; rw [updI_eq]; omega
    · rw [updI_ne e]; exact this
/-- The last one on the way is left: its part goes on. -/
theorem TJ.up {w : List Int} {u v : Int} (h : TJ n nx f L st cnt P (w ++ [u] ++ [v])) (hlt : L v < f v) (hall : ∀ y ∈ nx v, f y ≠ 0 ∧ (y ∈ st → L v ≤ f y)) : TJ n nx f (updI L u (min (L u) (L v))) st cnt P (w ++ [u]) := by
  have hd : (w ++ [u] ++ [v]).Nodup := (nodup_of_inc h.inc).sublist h.sub
  have hvw : v ∉ w ++ [u] := fun hm => (List.nodup_append.1 hd).2.2 v hm v (List.mem_singleton.2 rfl) rfl
  have hun : u ∉ w := fun hm => (List.nodup_append.1 (List.nodup_append.1 hd).1).2.2 u hm u (List.mem_singleton.2 rfl) rfl
  have huv : u ≠ v := fun e => hvw (e ▸ List.mem_append_right _ (List.mem_singleton.2 rfl))
  have hmax := last_max h.inc h.sub
  have hmax2 := last_max h.inc ((List.sublist_append_left _ _).trans h.sub)
  have hum : u ∈ w ++ [u] := List.mem_append_right _ (List.mem_singleton.2 rfl)
  have hvm : v ∈ w ++ [u] ++ [v] := List.mem_append_right _ (List.mem_singleton.2 rfl)
  have hvs : v ∈ st := h.sub.subset hvm
  have hfuv : f u < f v := hmax u hum
  obtain ⟨hl1, z, hz, hzl, hzr⟩ := h.low v hvm
  refine ⟨h.node, h.inc, h.rng, h.vis, h.dis, h.len, (List.sublist_append_left _ _).trans h.sub, fun x hx => ?_, fun a ha => h.rch a (List.mem_append_left _ ha), fun x hx hxW => ?_, fun a ha => ?_, fun a ha x hx hxW hlt2 how y hy hys => ?_, h.prt⟩
  · obtain ⟨a, ha, hle⟩ := h.top x hx
    rcases List.mem_append.1 ha with ha | ha
    · exact ⟨a, ha, hle⟩
    · rw [List.mem_singleton.1 ha] at hle
      exact ⟨u, hum, by omega⟩
  · by_cases e : x = v
    · subst e
      exact ⟨fun y hy => (hall y hy).1, z, hz, by omega, hzr⟩
    · exact h.fin x hx fun hm => by
        rcases List.mem_append.1 hm with hm | hm
        · exact hxW hm
        · exact e (List.mem_singleton.1 hm)
  · obtain ⟨h1, y, hy, h2, h3⟩ := h.low a (List.mem_append_left _ ha)
    by_cases e : a = u
    · subst e
      rw [updI_eq]
      refine ⟨by omega, ?_⟩
      by_cases c : L a ≤ L v
      · exact ⟨y, hy, by omega, h3⟩
      · exact ⟨z, hz, by omega, (h.rch a (List.mem_append_left _ hum) v hvs (by omega)).trans hzr⟩
    · rw [updI_ne e]; exact ⟨h1, y, hy, h2, h3⟩
  · have hva : ∀ c, f a ≤ c → f u ≤ f a → updI L u (min (L u) (L v)) a ≤ L a := fun c _ _ => by
      by_cases e : a = u
      · subst e; rw [updI_eq]; omega
      · rw [updI_ne e]; exact Int.le_refl _
    have hle : updI L u (min (L u) (L v)) a ≤ L a := by
      by_cases e : a = u
      · subst e; rw [updI_eq]; omega
      · rw [updI_ne e]; exact Int.le_refl _
    -- x was v's, or v itself: then a is u
    by_cases hxv : f v ≤ f x
    · have hau : a = u := by
        have h1 := how u hum (by omega)
        by_cases e : a = u
        · exact e
        · have : a ∈ w := by
            rcases List.mem_append.1 ha with ha | ha
            · exact ha
            · exact absurd (List.mem_singleton.1 ha) e
          have := hmax2 a this
          omega
      subst hau
      rw [updI_eq]
      by_cases e : x = v
      · subst e
        have := (hall y hy).2 hys
        omega
      · have hne : f v ≠ f x := fun e2 => e (inj_of_inc h.inc hx hvs e2.symm)
        have := h.seg v hvm x hx (fun hm => by
          rcases List.mem_append.1 hm with hm | hm
          · exact hxW hm
          · exact e (List.mem_singleton.1 hm)) (by omega) (fun c hc _ => by
            rcases List.mem_append.1 hc with hc | hc
            · have := hmax c hc; omega
            · rw [List.mem_singleton.1 hc]; exact Int.le_refl _) y hy hys
        omega
    · have hxv2 : x ≠ v := fun e => by subst e; omega
      have := h.seg a (List.mem_append_left _ ha) x hx (fun hm => by
        rcases List.mem_append.1 hm with hm | hm
        · exact hxW hm
        · exact hxv2 (List.mem_singleton.1 hm)) hlt2 (fun c hc hcx => by
          rcases List.mem_append.1 hc with hc | hc
          · exact how c hc hcx
          · rw [List.mem_singleton.1 hc] at hcx; omega) y hy hys
      omega
/-- Where the stack is cut. -/
theorem inc_split {v : Int} : ∀ {st : List Int}, st.Pairwise (fun x y => f x < f y) → v ∈ st → ∃ A B, st = A ++ v :: B ∧ (∀ x ∈ A, f x < f v) ∧ ∀ x ∈ B, f v < f x := by
  intro st h hv
  obtain ⟨A, B, rfl⟩ := List.append_of_mem hv
  obtain ⟨h1, h2, h3⟩ := List.pairwise_append.1 h
  exact ⟨A, B, rfl, fun x hx => h3 x hx v (List.mem_cons_self ..), fun x hx => (List.pairwise_cons.1 h2).1 x hx⟩
/-- The last one on the way is left, and its part is told. -/
theorem TJ.tell {w A B part : List Int} {v : Int} (h : TJ n nx f L st cnt P (w ++ [v])) (hst : st = A ++ v :: B) (heq : L v = f v) (hall : ∀ y ∈ nx v, f y ≠ 0 ∧ (y ∈ st → L v ≤ f y)) (hnx : ∀ x y, y ∈ nx x → 0 ≤ y ∧ y < n) (hp : part.Perm (v :: B)) (hs : part.Pairwise (· < ·)) : TJ n nx f L A cnt (P ++ [part]) w := by
  have hnd := nodup_of_inc h.inc
  have hmax := last_max h.inc h.sub
  have hvm : v ∈ w ++ [v] := List.mem_append_right _ (List.mem_singleton.2 rfl)
  have hinc := h.inc
  rw [hst] at hinc
  obtain ⟨i1, i2, i3⟩ := List.pairwise_append.1 hinc
  have hAlt : ∀ x ∈ A, f x < f v := fun x hx => i3 x hx v (List.mem_cons_self ..)
  have hBgt : ∀ x ∈ B, f v < f x := (List.pairwise_cons.1 i2).1
  have hAs : ∀ x ∈ A, x ∈ st := fun x hx => by rw [hst]; exact List.mem_append_left _ hx
  have hSs : ∀ x ∈ v :: B, x ∈ st := fun x hx => by rw [hst]; exact List.mem_append_right _ hx
  have hSge : ∀ x ∈ v :: B, f v ≤ f x := fun x hx => by
    rcases List.mem_cons.1 hx with rfl | hx
    · exact Int.le_refl _
    · have := hBgt x hx; omega
  have hge : ∀ x ∈ st, f v ≤ f x → x ∈ v :: B := fun x hx hle => by
    rw [hst] at hx
    rcases List.mem_append.1 hx with hx | hx
    · have := hAlt x hx; omega
    · exact hx
  have hnotW : ∀ x ∈ B, x ∉ w ++ [v] := fun x hx hm => by
    have := hBgt x hx
    rcases List.mem_append.1 hm with hm | hm
    · have := hmax x hm; omega
    · rw [List.mem_singleton.1 hm] at this; omega
  -- whatever the part leads to: itself, or what was told
  have hout : ∀ x ∈ v :: B, ∀ y ∈ nx x, y ∈ v :: B ∨ ∃ p ∈ P, y ∈ p := fun x hx y hy => by
    have hv2 : f y ≠ 0 ∧ (y ∈ st → f v ≤ f y) := by
      rcases List.mem_cons.1 hx with rfl | hxB
      · rw [← heq]; exact hall y hy
      · refine ⟨(h.fin x (hSs x hx) (hnotW x hxB)).1 y hy, fun hys => ?_⟩
        rw [← heq]
        refine h.seg v hvm x (hSs x hx) (hnotW x hxB) (hBgt x hxB) (fun u hu _ => ?_) y hy hys
        rcases List.mem_append.1 hu with hu | hu
        · have := hmax u hu; omega
        · rw [List.mem_singleton.1 hu]; exact Int.le_refl _
    obtain ⟨q1, q2⟩ := hnx x y hy
    rcases (h.vis y q1 q2).1 hv2.1 with hys | hyp
    · exact .inl (hge y hys (hv2.2 hys))
    · exact .inr hyp
  have hreach : ∀ {x y : Int}, Rx nx x y → x ∈ v :: B → y ∈ v :: B ∨ ∃ p ∈ P, y ∈ p := by
    intro x y hr hx
    induction hr with
    | refl => exact .inl hx
    | step _ hc ih =>
      rcases ih with ih | ih
      · exact hout _ ih _ hc
      · exact .inr (h.prt.reach (.one hc) ih)
  have hback : ∀ (k : Nat) (x : Int), x ∈ v :: B → (f x - f v).toNat ≤ k → Rx nx x v := by
    intro k
    induction k with
    | zero =>
      intro x hx hk
      have := hSge x hx
      rw [inj_of_inc h.inc (hSs x hx) (hSs v (List.mem_cons_self ..)) (by omega)]
      exact .refl _
    | succ k ih =>
      intro x hx hk
      rcases List.mem_cons.1 hx with rfl | hxB
      · exact .refl _
      · obtain ⟨_, y, hy, hlt, hr⟩ := h.fin x (hSs x hx) (hnotW x hxB)
        rcases hreach hr hx with hyS | ⟨p, hp, hyp⟩
        · have := hBgt x hxB
          exact hr.trans (ih y hyS (by omega))
        · exact absurd hy (h.dis p hp y hyp)
  have hcon : ∀ x ∈ v :: B, ∀ y ∈ v :: B, Rx nx x y := fun x hx y hy => (hback _ x hx (Nat.le_refl _)).trans (h.rch v hvm y (hSs y hy) (hSge y hy))
  have hpm : ∀ x, x ∈ part ↔ x ∈ v :: B := fun x => hp.mem_iff
  have hwA : w.Sublist A := by
    have h1 : (w ++ [v]).Sublist (A ++ v :: B) := hst ▸ h.sub
    have h2 := h1.filter (fun x => decide (f x < f v))
    have e1 : (w ++ [v]).filter (fun x => decide (f x < f v)) = w := by
      rw [List.filter_append, List.filter_eq_self.2 fun x hx => decide_eq_true (hmax x hx), List.filter_cons_of_neg (by simp)]
      simp
    have e2 : (A ++ v :: B).filter (fun x => decide (f x < f v)) = A := by
      rw [List.filter_append, List.filter_eq_self.2 fun x hx => decide_eq_true (hAlt x hx), List.filter_eq_nil_iff.2 fun x hx => by
        have := hSge x hx
        rw [decide_eq_true_eq]; omega]
      simp
    rw [e1, e2] at h2
    exact h2
  have hflat : (P ++ [part]).flatten = P.flatten ++ part := by rw [List.flatten_append]; simp
  refine ⟨fun x hx => h.node x (hAs x hx), i1, fun x hx => h.rng x (hAs x hx), fun x h0 h1 => ?_, fun p hp2 x hx hxA => ?_, ?_, hwA, fun x hx => ?_, fun a ha x hx => h.rch a (List.mem_append_left _ ha) x (hAs x hx), fun x hx hxW => ?_, fun a ha => ?_, fun a ha x hx hxW hlt how y hy hys => ?_, ⟨fun p hp2 => ?_, fun p hp2 x hx => ?_, ?_, fun p hp2 => ?_, fun p hp2 x hx y hy => ?_, fun i p hi x hx y hy => ?_⟩⟩
  · rw [h.vis x h0 h1, hst, List.mem_append]
    constructor
    · rintro ((hx | hx) | ⟨p, hp2, hx⟩)
      · exact .inl hx
      · exact .inr ⟨part, List.mem_append_right _ (List.mem_singleton.2 rfl), (hpm x).2 hx⟩
      · exact .inr ⟨p, List.mem_append_left _ hp2, hx⟩
    · rintro (hx | ⟨p, hp2, hx⟩)
      · exact .inl (.inl hx)
      · rcases List.mem_append.1 hp2 with hp2 | hp2
        · exact .inr ⟨p, hp2, hx⟩
        · rw [List.mem_singleton.1 hp2] at hx
          exact .inl (.inr ((hpm x).1 hx))
  · rcases List.mem_append.1 hp2 with hp2 | hp2
    · exact h.dis p hp2 x hx (hAs x hxA)
    · rw [List.mem_singleton.1 hp2] at hx
      have := hSge x ((hpm x).1 hx)
      have := hAlt x hxA
      omega
  · have h1 := h.len
    have h2 := hp.length_eq
    have h3 := congrArg List.length hst
    rw [List.length_append] at h3
    rw [hflat, List.length_append]; omega
  · obtain ⟨a, ha, hle⟩ := h.top x (hAs x hx)
    rcases List.mem_append.1 ha with ha | ha
    · exact ⟨a, ha, hle⟩
    · rw [List.mem_singleton.1 ha] at hle
      have := hAlt x hx; omega
  · have hxv : x ∉ w ++ [v] := fun hm => by
      rcases List.mem_append.1 hm with hm | hm
      · exact hxW hm
      · have := hAlt x hx
        rw [List.mem_singleton.1 hm] at this; omega
    obtain ⟨h1, y, hy, h2, h3⟩ := h.fin x (hAs x hx) hxv
    refine ⟨h1, y, ?_, h2, h3⟩
    have := hAlt x hx
    rw [hst] at hy
    rcases List.mem_append.1 hy with hy | hy
    · exact hy
    · have := hSge y hy; omega
  · obtain ⟨h1, y, hy, h2, h3⟩ := h.low a (List.mem_append_left _ ha)
    refine ⟨h1, y, ?_, h2, h3⟩
    have := hmax a ha
    rw [hst] at hy
    rcases List.mem_append.1 hy with hy | hy
    · exact hy
    · have := hSge y hy; omega
  · have hxv : x ∉ w ++ [v] := fun hm => by
      rcases List.mem_append.1 hm with hm | hm
      · exact hxW hm
      · have := hAlt x hx
        rw [List.mem_singleton.1 hm] at this; omega
    refine h.seg a (List.mem_append_left _ ha) x (hAs x hx) hxv hlt (fun u hu hle => ?_) y hy (hAs y hys)
    rcases List.mem_append.1 hu with hu | hu
    · exact how u hu hle
    · rw [List.mem_singleton.1 hu] at hle
      have := hAlt x hx; omega
  · rcases List.mem_append.1 hp2 with hp2 | hp2
    · exact h.prt.ne p hp2
    · rw [List.mem_singleton.1 hp2]
      exact List.ne_nil_of_mem ((hpm v).2 (List.mem_cons_self ..))
  · rcases List.mem_append.1 hp2 with hp2 | hp2
    · exact h.prt.node p hp2 x hx
    · rw [List.mem_singleton.1 hp2] at hx
      exact h.node x (hSs x ((hpm x).1 hx))
  · rw [hflat]
    refine List.nodup_append.2 ⟨h.prt.nd, hs.imp fun h => by omega, fun x hx y hy e => ?_⟩
    subst e
    obtain ⟨p, hp2, hxp⟩ := List.mem_flatten.1 hx
    exact h.dis p hp2 x hxp (hSs x ((hpm x).1 hy))
  · rcases List.mem_append.1 hp2 with hp2 | hp2
    · exact h.prt.srt p hp2
    · rw [List.mem_singleton.1 hp2]; exact hs
  · rcases List.mem_append.1 hp2 with hp2 | hp2
    · exact h.prt.con p hp2 x hx y hy
    · rw [List.mem_singleton.1 hp2] at hx hy
      exact hcon x ((hpm x).1 hx) y ((hpm y).1 hy)
  · by_cases hlt : i < P.length
    · rw [List.getElem?_append_left hlt] at hi
      obtain ⟨j, q, h1, h2, h3⟩ := h.prt.clo i p hi x hx y hy
      exact ⟨j, q, h1, by rw [List.getElem?_append_left (by omega)]; exact h2, h3⟩
    · have hip : i = P.length ∧ p = part := by
        rw [List.getElem?_append_right (by omega)] at hi
        by_cases e : i - P.length = 0
        · rw [e] at hi
          exact ⟨by omega, (Option.some.inj hi).symm⟩
        · rw [List.getElem?_eq_none (by rw [List.length_singleton]; omega)] at hi; cases hi
      obtain ⟨rfl, rfl⟩ := hip
      rcases hout x ((hpm x).1 hx) y hy with hyS | ⟨q, hq, hyq⟩
      · exact ⟨P.length, p, Nat.le_refl _, by rw [List.getElem?_append_right (Nat.le_refl _), Nat.sub_self]; rfl, (hpm y).2 hyS⟩
      · obtain ⟨j, hj⟩ := List.getElem?_of_mem hq
        have hjl : j < P.length := (List.getElem?_eq_some_iff.1 hj).1
        exact ⟨j, q, by omega, by rw [List.getElem?_append_left hjl]; exact hj, hyq⟩
/-- Where nothing is on the way, nothing is on the stack. -/
theorem TJ.empty (h : TJ n nx f L st cnt P []) : st = [] := by
  cases st with
  | nil => rfl
  | cons x st =>
    obtain ⟨v, hv, _⟩ := h.top x (List.mem_cons_self ..)
    cases hv
/-- The first one on the way leads to none that was entered earlier. -/
theorem TJ.first {v : Int} (h : TJ n nx f L st cnt P [v]) : L v = f v := by
  obtain ⟨h1, y, hy, h2, _⟩ := h.low v (List.mem_singleton.2 rfl)
  obtain ⟨u, hu, h3⟩ := h.top y hy
  rw [List.mem_singleton.1 hu] at h3
  omega
end Go.Proofs.YtljbnigceammdaaGreatDoor
