/-
  Sa: what the claim uses of them.
-/
import Derived.Test.YtljbnigceammdaaGreatDoorBn13
namespace Go.Proofs.YtljbnigceammdaaGreatDoor
open Go.RowKit
/-- b is reached from a. -/
inductive Rx (nx : Int → List Int) : Int → Int → Prop where
  | refl (a : Int) : Rx nx a a
  | step {a b c : Int} (h : Rx nx a b) (hc : c ∈ nx b) : Rx nx a c
theorem Rx.trans {nx : Int → List Int} {a b c : Int} (h1 : Rx nx a b) (h2 : Rx nx b c) : Rx nx a c := by
  induction h2 with
  | refl => exact h1
  | step _ hc ih => exact .step ih hc
theorem Rx.one {nx : Int → List Int} {a b : Int} (h : b ∈ nx a) : Rx nx a b := .step (.refl a) h
/-- A function that is changed at one place. -/
def updI (f : Int → Int) (a v : Int) : Int → Int := fun y => if y = a then v else f y
theorem updI_ne {f : Int → Int} {a v y : Int} (h : y ≠ a) : updI f a v y = f y := if_neg h
theorem updI_eq {f : Int → Int} {a v : Int} : updI f a v a = v := if_pos rfl
/-- Parts that were told: each is connected, and leads to itself and to earlier ones. -/
structure POk (n : Nat) (nx : Int → List Int) (P : List (List Int)) : Prop where
  ne : ∀ p ∈ P, p ≠ []
  node : ∀ p ∈ P, ∀ x ∈ p, 0 ≤ x ∧ x < (n : Int)
  nd : P.flatten.Nodup
  srt : ∀ p ∈ P, p.Pairwise (· < ·)
  con : ∀ p ∈ P, ∀ x ∈ p, ∀ y ∈ p, Rx nx x y
  clo : ∀ (i : Nat) (p : List Int), P[i]? = some p → ∀ x ∈ p, ∀ y ∈ nx x, ∃ (j : Nat) (q : List Int), j ≤ i ∧ P[j]? = some q ∧ y ∈ q
theorem POk.nil (n : Nat) (nx : Int → List Int) : POk n nx [] := ⟨fun _ h => (by cases h), fun _ h => (by cases h), List.nodup_nil, fun _ h => (by cases h), fun _ h => (by cases h), fun i p h => by simp at h⟩
/-- How Tarjan's walk stands: f tells when a node was entered, L how low it leads; the stack, the count, the parts; the nodes on the way. -/
structure TJ (n : Nat) (nx : Int → List Int) (f L : Int → Int) (st : List Int) (cnt : Nat) (P : List (List Int)) (W : List Int) : Prop where
  node : ∀ x ∈ st, 0 ≤ x ∧ x < (n : Int)
  inc : st.Pairwise fun x y => f x < f y
  rng : ∀ x ∈ st, 1 ≤ f x ∧ f x ≤ cnt
  vis : ∀ x : Int, 0 ≤ x → x < n → (f x ≠ 0 ↔ x ∈ st ∨ ∃ p ∈ P, x ∈ p)
  dis : ∀ p ∈ P, ∀ x ∈ p, x ∉ st
  len : cnt = st.length + P.flatten.length
  sub : W.Sublist st
  top : ∀ x ∈ st, ∃ v ∈ W, f v ≤ f x
  rch : ∀ v ∈ W, ∀ x ∈ st, f v ≤ f x → Rx nx v x
  fin : ∀ x ∈ st, x ∉ W → (∀ y ∈ nx x, f y ≠ 0) ∧ ∃ y ∈ st, f y < f x ∧ Rx nx x y
  low : ∀ v ∈ W, L v ≤ f v ∧ ∃ y ∈ st, f y = L v ∧ Rx nx v y
  seg : ∀ v ∈ W, ∀ x ∈ st, x ∉ W → f v < f x → (∀ u ∈ W, f u ≤ f x → f u ≤ f v) → ∀ y ∈ nx x, y ∈ st → L v ≤ f y
  prt : POk n nx P
/-- Which edges of the nodes on the way were looked at. -/
def Prc (nx : Int → List Int) (f L : Int → Int) (st : List Int) (way : List (Int × Nat)) : Prop := ∀ t ∈ way, ∀ y ∈ (nx t.1).take t.2, f y ≠ 0 ∧ (y ∈ st → L t.1 ≤ f y)
theorem inj_of_inc {f : Int → Int} : ∀ {st : List Int}, st.Pairwise (fun x y => f x < f y) → ∀ {x y : Int}, x ∈ st → y ∈ st → f x = f y → x = y
  | [], _, _, _, hx, _, _ => by cases hx
  | a :: st, h, x, y, hx, hy, e => by
    obtain ⟨h1, h2⟩ := List.pairwise_cons.1 h
    rcases List.mem_cons.1 hx with e1 | hx1
    · rcases List.mem_cons.1 hy with e2 | hy1
      · rw [e1, e2]
      · have := h1 y hy1; rw [e1] at e; omega
    · rcases List.mem_cons.1 hy with e2 | hy1
      · have := h1 x hx1; rw [e2] at e; omega
      · exact inj_of_inc h2 hx1 hy1 e
theorem nodup_of_inc {f : Int → Int} {st : List Int} (h : st.Pairwise (fun x y => f x < f y)) : st.Nodup := h.imp fun hxy e => by subst e; omega
/-- The last one on the way was entered last of these. -/
theorem last_max {f : Int → Int} {st w : List Int} {v : Int} (h : st.Pairwise (fun x y => f x < f y)) (hs : (w ++ [v]).Sublist st) : ∀ u ∈ w, f u < f v := by
  have := h.sublist hs
  intro u hu
  exact (List.pairwise_append.1 this).2.2 u hu v (List.mem_singleton.2 rfl)
variable {n : Nat} {nx : Int → List Int} {f L : Int → Int} {st : List Int} {cnt : Nat} {P : List (List Int)}
theorem TJ.start (h : ∀ x, f x = 0) : TJ n nx f L [] 0 [] [] :=
  ⟨fun _ h => (by cases h), .nil, fun _ h => (by cases h), fun x _ _ => by simp [h], fun _ h => (by cases h), rfl, .slnil, fun _ h => (by cases h), fun _ h => (by cases h), fun _ h => (by cases h), fun _ h => (by cases h), fun _ h => (by cases h), .nil n nx⟩
/-- A new node is entered: from the last one on the way, or from none. -/
theorem TJ.enter {W : List Int} {b : Int} (h : TJ n nx f L st cnt P W) (hb : 0 ≤ b ∧ b < n) (hf : f b = 0) (hW : ∀ v ∈ W, Rx nx v b) : TJ n nx (updI f b (cnt + 1)) (updI L b (cnt + 1)) (st ++ [b]) (cnt + 1) P (W ++ [b]) := by
  have hbs : b ∉ st := fun hm => by have := h.rng b hm; omega
  have hbW : b ∉ W := fun hm => hbs (h.sub.subset hm)
  have hf1 : ∀ x ∈ st, updI f b (cnt + 1) x = f x := fun x hx => updI_ne fun e => hbs (e ▸ hx)
  have hL1 : ∀ x ∈ W, updI L b (cnt + 1) x = L x := fun x hx => updI_ne fun e => hbW (e ▸ hx)
  have hfb : updI f b (cnt + 1) b = (cnt + 1 : Nat) := by rw [updI_eq]; rfl
  have hWs := h.sub.subset
  refine ⟨fun x hx => ?_, ?_, fun x hx => ?_, fun x h0 h1 => ?_, fun p hp x hx => ?_, by have := h.len; rw [List.length_append, List.length_singleton]; omega, h.sub.append (.refl _), fun x hx => ?_, fun v hv x hx hle => ?_, fun x hx hxW => ?_, fun v hv => ?_, fun v hv x hx hxW hlt how y hy hys => ?_, h.prt⟩
  · rcases List.mem_append.1 hx with hx | hx
    · exact h.node x hx
    · rw [List.mem_singleton.1 hx]; exact hb
  · refine List.pairwise_append.2 ⟨h.inc.imp_of_mem fun {x y} hx hy hxy => ?_, List.pairwise_singleton .., fun x hx y hy => ?_⟩
    · rw [hf1 x hx, hf1 y hy]; exact hxy
    · rw [List.mem_singleton.1 hy, hf1 x hx, hfb]
      have := (h.rng x hx).2; omega
  · rcases List.mem_append.1 hx with hx | hx
    · rw [hf1 x hx]; have := h.rng x hx; omega
    · rw [List.mem_singleton.1 hx, hfb]; omega
  · by_cases e : x = b
    · subst e
      exact ⟨fun _ => .inl (List.mem_append_right _ (List.mem_singleton.2 rfl)), fun _ => by rw [hfb]; omega⟩
    · rw [updI_ne e, h.vis x h0 h1, List.mem_append, List.mem_singleton]
      exact or_congr_left ⟨.inl, fun h => h.resolve_right e⟩
  · rw [List.mem_append, List.mem_singleton]
    rintro (hm | rfl)
    · exact h.dis p hp x hx hm
    · exact ((h.vis x hb.1 hb.2).2 (.inr ⟨p, hp, hx⟩)) hf
  · rcases List.mem_append.1 hx with hx | hx
    · obtain ⟨v, hv, hle⟩ := h.top x hx
      exact ⟨v, List.mem_append_left _ hv, by rw [hf1 v (hWs hv), hf1 x hx]; exact hle⟩
    · rw [List.mem_singleton.1 hx]
      exact ⟨b, List.mem_append_right _ (List.mem_singleton.2 rfl), Int.le_refl _⟩
  · rcases List.mem_append.1 hv with hv | hv
    · rcases List.mem_append.1 hx with hx | hx
      · rw [hf1 v (hWs hv), hf1 x hx] at hle
        exact h.rch v hv x hx hle
      · rw [List.mem_singleton.1 hx]; exact hW v hv
    · rw [List.mem_singleton.1 hv] at hle ⊢
      rcases List.mem_append.1 hx with hx | hx
      · rw [hfb, hf1 x hx] at hle
        have := (h.rng x hx).2; omega
      · rw [List.mem_singleton.1 hx]; exact .refl _
  · rw [List.mem_append, List.mem_singleton] at hxW
    have hx : x ∈ st := by
      rcases List.mem_append.1 hx with hx | hx
      · exact hx
      · exact absurd (.inr (List.mem_singleton.1 hx)) hxW
    obtain ⟨h1, y, hy, h2, h3⟩ := h.fin x hx fun hm => hxW (.inl hm)
    refine ⟨fun y hy => ?_, y, List.mem_append_left _ hy, by rw [hf1 y hy, hf1 x hx]; exact h2, h3⟩
    by_cases e : y = b
    · subst e; rw [hfb]; omega
    · rw [updI_ne e]; exact h1 y hy
  · rcases List.mem_append.1 hv with hv | hv
    · obtain ⟨h1, y, hy, h2, h3⟩ := h.low v hv
      rw [hL1 v hv, hf1 v (hWs hv)]
      exact ⟨h1, y, List.mem_append_left _ hy, by rw [hf1 y hy]; exact h2, h3⟩
    · rw [List.mem_singleton.1 hv, updI_eq, updI_eq]
      exact ⟨Int.le_refl _, b, List.mem_append_right _ (List.mem_singleton.2 rfl), updI_eq, .refl _⟩
  · rw [List.mem_append, List.mem_singleton] at hxW
    have hx : x ∈ st := by
      rcases List.mem_append.1 hx with hx | hx
      · exact hx
      · exact absurd (.inr (List.mem_singleton.1 hx)) hxW
    rcases List.mem_append.1 hv with hv | hv
    · rw [hL1 v hv]
      rw [hf1 v (hWs hv), hf1 x hx] at hlt
      have hyb : y ≠ b := fun e => (h.fin x hx fun hm => hxW (.inl hm)).1 y hy (e ▸ hf)
      have hys : y ∈ st := by
        rcases List.mem_append.1 hys with hys | hys
        · exact hys
        · exact absurd (List.mem_singleton.1 hys) hyb
      rw [hf1 y hys]
      refine h.seg v hv x hx (fun hm => hxW (.inl hm)) hlt (fun u hu hle => ?_) y hy hys
      have := how u (List.mem_append_left _ hu)
      rw [hf1 u (hWs hu), hf1 x hx, hf1 v (hWs hv)] at this
      exact this hle
    · rw [List.mem_singleton.1 hv, hfb, hf1 x hx] at hlt
      have := (h.rng x hx).2; omega
/-- The last one on the way is left: its part goes on. -/
theorem TJ.up {w : List Int} {u v : Int} (h : TJ n nx f L st cnt P (w ++ [u] ++ [v])) (hlt : L v < f v) (hall : ∀ y ∈ nx v, f y ≠ 0 ∧ (y ∈ st → L v ≤ f y)) : TJ n nx f (updI L u (min (L u) (L v))) st cnt P (w ++ [u]) := by
  have hd : (w ++ [u] ++ [v]).Nodup := (nodup_of_inc h.inc).sublist h.sub
  have hvw : v ∉ w ++ [u] := fun hm => (List.nodup_append.1 hd).2.2 v hm v (List.mem_singleton.2 rfl) rfl
  have hun : u ∉ w := fun hm => (List.nodup_append.1 (List.nodup_append.1 hd).1).2.2 u hm u (List.mem_singleton.2 rfl) rfl
  have huv : u ≠ v := fun e => hvw (e ▸ List.mem_append_right _ (List.mem_singleton.2 rfl))
  have hmax := last_max h.inc h.sub
  have hmax2 := last_max h.inc ((List.sublist_append_left _ _).trans h.sub)
  have hum : u ∈ w ++ [u] := List.mem_append_right _ (List.mem_singleton.2 rfl)
  have hvm : v ∈ w ++ [u] ++ [v] := List.mem_append_right _ (List.mem_singleton.2 rfl)
  have hvs : v ∈ st := h.sub.subset hvm
  have hfuv : f u < f v := hmax u hum
  obtain ⟨hl1, z, hz, hzl, hzr⟩ := h.low v hvm
  refine ⟨h.node, h.inc, h.rng, h.vis, h.dis, h.len, (List.sublist_append_left _ _).trans h.sub, fun x hx => ?_, fun a ha => h.rch a (List.mem_append_left _ ha), fun x hx hxW => ?_, fun a ha => ?_, fun a ha x hx hxW hlt2 how y hy hys => ?_, h.prt⟩
  · obtain ⟨a, ha, hle⟩ := h.top x hx
    rcases List.mem_append.1 ha with ha | ha
    · exact ⟨a, ha, hle⟩
    · rw [List.mem_singleton.1 ha] at hle
      exact ⟨u, hum, by omega⟩
  · by_cases e : x = v
    · subst e
      exact ⟨fun y hy => (hall y hy).1, z, hz, by omega, hzr⟩
    · exact h.fin x hx fun hm => by
        rcases List.mem_append.1 hm with hm | hm
        · exact hxW hm
        · exact e (List.mem_singleton.1 hm)
  · obtain ⟨h1, y, hy, h2, h3⟩ := h.low a (List.mem_append_left _ ha)
    by_cases e : a = u
    · subst e
      rw [updI_eq]
      refine ⟨by omega, ?_⟩
      by_cases c : L a ≤ L v
      · exact ⟨y, hy, by omega, h3⟩
      · exact ⟨z, hz, by omega, (h.rch a (List.mem_append_left _ hum) v hvs (by omega)).trans hzr⟩
    · rw [updI_ne e]; exact ⟨h1, y, hy, h2, h3⟩
  · have hva : ∀ c, f a ≤ c → f u ≤ f a → updI L u (min (L u) (L v)) a ≤ L a := fun c _ _ => by
      by_cases e : a = u
      · subst e; rw [updI_eq]; omega
      · rw [updI_ne e]; exact Int.le_refl _
    have hle : updI L u (min (L u) (L v)) a ≤ L a := by
      by_cases e : a = u
      · subst e; rw [updI_eq]; omega
      · rw [updI_ne e]; exact Int.le_refl _
    -- x was v's, or v itself: then a is u
    by_cases hxv : f v ≤ f x
    · have hau : a = u := by
        have h1 := how u hum (by omega)
        by_cases e : a = u
        · exact e
        · have : a ∈ w := by
            rcases List.mem_append.1 ha with ha | ha
            · exact ha
            · exact absurd (List.mem_singleton.1 ha) e
          have := hmax2 a this
          omega
      subst hau
      rw [updI_eq]
      by_cases e : x = v
      · subst e
        have := (hall y hy).2 hys
        omega
      · have hne : f v ≠ f x := fun e2 => e (inj_of_inc h.inc hx hvs e2.symm)
        have := h.seg v hvm x hx (fun hm => by
          rcases List.mem_append.1 hm with hm | hm
          · exact hxW hm
          · exact e (List.mem_singleton.1 hm)) (by omega) (fun c hc _ => by
            rcases List.mem_append.1 hc with hc | hc
            · have := hmax c hc; omega
            · rw [List.mem_singleton.1 hc]; exact Int.le_refl _) y hy hys
        omega
    · have hxv2 : x ≠ v := fun e => by subst e; omega
      have := h.seg a (List.mem_append_left _ ha) x hx (fun hm => by
        rcases List.mem_append.1 hm with hm | hm
        · exact hxW hm
        · exact hxv2 (List.mem_singleton.1 hm)) hlt2 (fun c hc hcx => by
          rcases List.mem_append.1 hc with hc | hc
          · exact how c hc hcx
          · rw [List.mem_singleton.1 hc] at hcx; omega) y hy hys
      omega
/-- Where nothing is on the way, nothing is on the stack. -/
theorem TJ.empty (h : TJ n nx f L st cnt P []) : st = [] := by
  cases st with
  | nil => rfl
  | cons x st =>
    obtain ⟨v, hv, _⟩ := h.top x (List.mem_cons_self ..)
    cases hv
/-- The first one on the way leads to none that was entered earlier. -/
theorem TJ.first {v : Int} (h : TJ n nx f L st cnt P [v]) : L v = f v := by
  obtain ⟨h1, y, hy, h2, _⟩ := h.low v (List.mem_singleton.2 rfl)
  obtain ⟨u, hu, h3⟩ := h.top y hy
  rw [List.mem_singleton.1 hu] at h3
  omega
end Go.Proofs.YtljbnigceammdaaGreatDoor
