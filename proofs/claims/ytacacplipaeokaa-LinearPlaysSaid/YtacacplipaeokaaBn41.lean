/-
  Lc: what the claim uses of them.
-/
import Derived.Test.YtacacplipaeokaaBn40
namespace Go.Proofs.Ytacacplipaeokaa
open Go.RowKit
set_option maxRecDepth 100000
set_option maxHeartbeats 4000000
theorem aCloneM (b off k : Nat) (C cs : List AV) (σ : Hp) (hm : (b, C) ∈ σ) (h : (C.drop off).take (k * 1) = cs) (h2 : off + k * 1 ≤ C.length) (hl : k ≤ 1000000) : ACalls Try.prog 72 [.mref b off k 1] σ (fun x σ' => ∃ b', x = .mref b' 0 k 1 ∧ σ' = (b', cs) :: σ) := by
  refine okF Try.func72 (by kernel_rfl) ?_
  intro b2
  refine AppendAt.more 0 b2 0 k [] ((C.drop off).take (k * 1)) rfl rfl (Nat.le_of_ble_eq_true rfl) (.mem (List.mem_cons_of_mem _ hm) h2) (by omega) (by decide) (by decide) (fun b' => ?_)
  refine .done ⟨b', by rw [Nat.zero_add]; rfl, ?_⟩
  rw [h]; rfl
theorem aCloneO {l : List Int} {v : AV} {acc : Hp} (h : AccO 1 l.length v acc (inC l)) (σ : Hp) (hm : ∀ p ∈ acc, p ∈ σ) (hl : l.length ≤ 1000000) : ACalls Try.prog 72 [v] σ (fun x σ' => ∃ acc', AccO 1 l.length x acc' (inC l) ∧ σ' = acc' ++ σ) := by
  generalize hk : l.length = k at h
  generalize hc : inC l = cs at h
  rw [hk] at hl
  cases h with
  | nil => exact (aCloneN σ).mono fun x σ' h => ⟨[], by rw [h.1]; exact .nil, h.2⟩
  | mref b off k cs all h1 h2 =>
    refine (aCloneM b off k all cs σ (hm _ (by simp)) h1 h2 hl).mono ?_
    rintro x σ' ⟨b', rfl, rfl⟩
    refine ⟨[(b', cs)], .mref b' 0 k cs cs ?_ ?_, rfl⟩
    · rw [List.drop_zero]
      exact List.take_of_length_le (by rw [← h1]; simp; omega)
    · rw [← h1]; simp; omega
theorem accO_val {e k : Nat} {v : AV} {acc : Hp} {cs : List AV} (h : AccO e k v acc cs) : (v = .nils ∧ acc = [] ∧ k = 0) ∨ ∃ b off all, v = .mref b off k e ∧ acc = [(b, all)] := by
  cases h with
  | nil => exact .inl ⟨rfl, rfl, rfl⟩
  | mref b off _ _ all => exact .inr ⟨b, off, all, rfl, rfl⟩
theorem inC_rdL {i : TI} (hw : i.wide = false) {l : List Int} {k : Nat} (h : k < l.length) : readAs i (inC l) (0 + ((k : Int)).toNat * 1) = some (.int .i64 l[k]) := by
  unfold readAs
  rw [hw, show 0 + ((k : Int)).toNat * 1 = k by omega]
  show (inC l)[k]? = _
  unfold inC
  rw [List.getElem?_map, List.getElem?_eq_getElem h]; rfl
theorem op_get {ops : List OpR} {n : Int} (h1 : 0 ≤ n) (h2 : n < ops.length) : (ops.map opT)[n.toNat]? = some (opT (opAt ops n)) := by
  unfold opAt
  rw [List.getElem?_map, List.getD_eq_getElem?_getD, List.getElem?_eq_getElem (show n.toNat < ops.length by omega)]; rfl
theorem mem_cut (p : Nat × List AV) (acc τ : Hp) : ∀ q ∈ acc, q ∈ p :: (acc ++ τ) := fun _ h => List.mem_cons_of_mem _ (List.mem_append_left _ h)
theorem doP_len (R : Int) (l : List Int) (o : OpR) : (doP R l o).1.length ≤ l.length + 1 := by
  unfold doP
  split
  · split <;> simp
  · split
    · split
      · simp; omega
      · split
        · simp
        · simp; omega
    · split
      · split
        · simp
        · simp; omega
      · simp
theorem replay_none {R : Int} {ops : List OpR} {ord : List Int} {k : Nat} (_ : k < ord.length) (h : replayP R ops [] (ord.take (k + 1)) = none) : replayP R ops [] ord = none := by
  rw [← List.take_append_drop (k + 1) ord, replay_app, h]; rfl
def mxR (R : Int) : Int := if R < 1 then 1 else R
theorem aReplay (ops : List OpR) (R : Int) (ord : List Int) (b : Nat) (σ : Hp) (hr : ∀ i ∈ ord, 0 ≤ i ∧ i < ops.length) (hl : ord.length ≤ 100000) : ACalls Try.prog 73 [.fsl opSh (ops.map opT), .int .i64 R, .mref b 0 ord.length 1] ((b, inC ord) :: σ) (fun x σ' => ∃ v G, (v = .nils ∨ ∃ b off k, v = .mref b off k 1) ∧ x = .tup [v, .bool (replayP (mxR R) ops [] ord).isSome] ∧ σ' = (b, inC ord) :: (G ++ σ)) := by
  refine okF Try.func73 (by kernel_rfl) ?_
  refine loopS (S := Nat × AV × Hp × Hp × List Int) (fun x => [(0, .fsl opSh (ops.map opT)), (1, .int .i64 R), (8, x.2.1), (12, .mref b 0 ord.length 1), (13, .int .i64 ord.length), (14, .int .i64 x.1)]) (fun x => (b, inC ord) :: (x.2.2.1 ++ (x.2.2.2.1 ++ σ))) (fun x => x.1 ≤ ord.length ∧ AccO 1 x.2.2.2.2.length x.2.1 x.2.2.1 (inC x.2.2.2.2) ∧ replayP (mxR R) ops [] (ord.take x.1) = some x.2.2.2.2 ∧ x.2.2.2.2.length ≤ x.1) (fun x => ord.length - x.1) (0, .nils, [], [], []) ⟨⟨Nat.zero_le _, .nil, rfl, Nat.le_refl _⟩, ⟨rfl, rfl, rfl, rfl, rfl, rfl, trivial⟩, rfl⟩ ?_
  rintro ⟨k, v, acc, G, now⟩ g ⟨hk, hacc, hrep, hnow⟩
  have hk : k ≤ ord.length := hk
  have hacc : AccO 1 now.length v acc (inC now) := hacc
  have hrep : replayP (mxR R) ops [] (ord.take k) = some now := hrep
  have hnow : now.length ≤ k := hnow
  refine bcond_dec (fun hlt => ?_) (fun hge => ?_)
  · have hlt : (k : Int) < ord.length := hlt
    have hkl : k < ord.length := by omega
    have hin := hr _ (List.getElem_mem hkl)
    have hstep : replayP (mxR R) ops [] (ord.take (k + 1)) = if (doP (mxR R) now (opAt ops ord[k])).2 = true then some (doP (mxR R) now (opAt ops ord[k])).1 else none := by
      rw [List.take_succ_eq_append_getElem hkl, replay_app, hrep]; rfl
    have hlen := doP_len (mxR R) now (opAt ops ord[k])
    refine With.mk ⟨rfl, by omega, by omega⟩ ?_
    refine LoadAt.mk 0 _ _ rfl (inC_rdL rfl hkl) ?_
    rcases accO_val hacc with ⟨rfl, rfl, hn0⟩ | ⟨b1, off1, all1, rfl, rfl⟩
    · refine .each (by kernel_rfl) ?_
      refine With.mk rfl (IdxF.mk (opT (opAt ops ord[k])) hin.1 (op_get hin.1 hin.2) ?_)
      refine And.intro ?_ ?_
      · refine .mk [] _ (aCloneO hacc _ (mem_cut _ _ _) (by omega)) ?_
        rintro x _ ⟨acc2, hx, rfl⟩
        rcases accO_val hx with ⟨rfl, rfl, hx0⟩ | ⟨b2, off2, all2, rfl, rfl⟩
        · skip
          try refine With.mk rfl (IdxF.mk (opT (opAt ops ord[k])) hin.1 (op_get hin.1 hin.2) ?_)
          refine .perm _ (.refl _) (aDoO (mxR R) (opAt ops ord[k]) now (.nils) [] hx (by omega) ((b, inC ord) :: ([] ++ (G ++ σ)))) ?_
          rintro _ _ ⟨v2, acc3, rfl, h3, rfl⟩
          refine ⟨(b, inC ord) :: (acc3 ++ (([] ++ G) ++ σ)), by rw [List.append_assoc []]; exact List.perm_middle.symm, ?_⟩
          rcases accO_val h3 with ⟨rfl, rfl, h0⟩ | ⟨b4, off4, all4, rfl, rfl⟩
          · refine bcond_split (fun c => ?_) (fun c => ?_)
            · have c : (!(doP (mxR R) now (opAt ops ord[k])).2) = true := c
              have c : (doP (mxR R) now (opAt ops ord[k])).2 = false := by simpa using c
              exact .done ⟨.nils, [] ++ ([] ++ G), .inl rfl, by rw [replay_none hkl (by rw [hstep, c]; rfl)]; rfl, by simp⟩
            · have c : (!(doP (mxR R) now (opAt ops ord[k])).2) = false := c
              have c : (doP (mxR R) now (opAt ops ord[k])).2 = true := by simpa using c
              exact nextS (k + 1, .nils, [], [] ++ G, (doP (mxR R) now (opAt ops ord[k])).1) (by show ord.length - (k + 1) < ord.length - k; omega) ⟨hkl, h3, by rw [hstep, c]; rfl, by show (doP (mxR R) now (opAt ops ord[k])).1.length ≤ k + 1; omega⟩ ⟨rfl, rfl, rfl, rfl, rfl, inc64 (by omega), trivial⟩ (.refl _)
          · refine bcond_split (fun c => ?_) (fun c => ?_)
            · have c : (!(doP (mxR R) now (opAt ops ord[k])).2) = true := c
              have c : (doP (mxR R) now (opAt ops ord[k])).2 = false := by simpa using c
              exact .done ⟨.nils, [(b4, all4)] ++ ([] ++ G), .inl rfl, by rw [replay_none hkl (by rw [hstep, c]; rfl)]; rfl, by simp⟩
            · have c : (!(doP (mxR R) now (opAt ops ord[k])).2) = false := c
              have c : (doP (mxR R) now (opAt ops ord[k])).2 = true := by simpa using c
              exact nextS (k + 1, .mref b4 off4 (doP (mxR R) now (opAt ops ord[k])).1.length 1, [(b4, all4)], [] ++ G, (doP (mxR R) now (opAt ops ord[k])).1) (by show ord.length - (k + 1) < ord.length - k; omega) ⟨hkl, h3, by rw [hstep, c]; rfl, by show (doP (mxR R) now (opAt ops ord[k])).1.length ≤ k + 1; omega⟩ ⟨rfl, rfl, rfl, rfl, rfl, inc64 (by omega), trivial⟩ (.refl _)
        · skip
          try refine With.mk rfl (IdxF.mk (opT (opAt ops ord[k])) hin.1 (op_get hin.1 hin.2) ?_)
          refine .perm _ (.refl _) (aDoO (mxR R) (opAt ops ord[k]) now (.mref b2 off2 now.length 1) [(b2, all2)] hx (by omega) ((b, inC ord) :: ([] ++ (G ++ σ)))) ?_
          rintro _ _ ⟨v2, acc3, rfl, h3, rfl⟩
          refine ⟨(b, inC ord) :: (acc3 ++ (([] ++ G) ++ σ)), by rw [List.append_assoc []]; exact List.perm_middle.symm, ?_⟩
          rcases accO_val h3 with ⟨rfl, rfl, h0⟩ | ⟨b4, off4, all4, rfl, rfl⟩
          · refine bcond_split (fun c => ?_) (fun c => ?_)
            · have c : (!(doP (mxR R) now (opAt ops ord[k])).2) = true := c
              have c : (doP (mxR R) now (opAt ops ord[k])).2 = false := by simpa using c
              exact .done ⟨.nils, [] ++ ([] ++ G), .inl rfl, by rw [replay_none hkl (by rw [hstep, c]; rfl)]; rfl, by simp⟩
            · have c : (!(doP (mxR R) now (opAt ops ord[k])).2) = false := c
              have c : (doP (mxR R) now (opAt ops ord[k])).2 = true := by simpa using c
              exact nextS (k + 1, .nils, [], [] ++ G, (doP (mxR R) now (opAt ops ord[k])).1) (by show ord.length - (k + 1) < ord.length - k; omega) ⟨hkl, h3, by rw [hstep, c]; rfl, by show (doP (mxR R) now (opAt ops ord[k])).1.length ≤ k + 1; omega⟩ ⟨rfl, rfl, rfl, rfl, rfl, inc64 (by omega), trivial⟩ (.refl _)
          · refine bcond_split (fun c => ?_) (fun c => ?_)
            · have c : (!(doP (mxR R) now (opAt ops ord[k])).2) = true := c
              have c : (doP (mxR R) now (opAt ops ord[k])).2 = false := by simpa using c
              exact .done ⟨.nils, [(b4, all4)] ++ ([] ++ G), .inl rfl, by rw [replay_none hkl (by rw [hstep, c]; rfl)]; rfl, by simp⟩
            · have c : (!(doP (mxR R) now (opAt ops ord[k])).2) = false := c
              have c : (doP (mxR R) now (opAt ops ord[k])).2 = true := by simpa using c
              exact nextS (k + 1, .mref b4 off4 (doP (mxR R) now (opAt ops ord[k])).1.length 1, [(b4, all4)], [] ++ G, (doP (mxR R) now (opAt ops ord[k])).1) (by show ord.length - (k + 1) < ord.length - k; omega) ⟨hkl, h3, by rw [hstep, c]; rfl, by show (doP (mxR R) now (opAt ops ord[k])).1.length ≤ k + 1; omega⟩ ⟨rfl, rfl, rfl, rfl, rfl, inc64 (by omega), trivial⟩ (.refl _)
      · refine .mk [] _ (aCloneO hacc _ (mem_cut _ _ _) (by omega)) ?_
        rintro x _ ⟨acc2, hx, rfl⟩
        rcases accO_val hx with ⟨rfl, rfl, hx0⟩ | ⟨b2, off2, all2, rfl, rfl⟩
        · skip
          try refine With.mk rfl (IdxF.mk (opT (opAt ops ord[k])) hin.1 (op_get hin.1 hin.2) ?_)
          refine .perm _ (.refl _) (aDoO (mxR R) (opAt ops ord[k]) now (.nils) [] hx (by omega) ((b, inC ord) :: ([] ++ (G ++ σ)))) ?_
          rintro _ _ ⟨v2, acc3, rfl, h3, rfl⟩
          refine ⟨(b, inC ord) :: (acc3 ++ (([] ++ G) ++ σ)), by rw [List.append_assoc []]; exact List.perm_middle.symm, ?_⟩
          rcases accO_val h3 with ⟨rfl, rfl, h0⟩ | ⟨b4, off4, all4, rfl, rfl⟩
          · refine bcond_split (fun c => ?_) (fun c => ?_)
            · have c : (!(doP (mxR R) now (opAt ops ord[k])).2) = true := c
              have c : (doP (mxR R) now (opAt ops ord[k])).2 = false := by simpa using c
              exact .done ⟨.nils, [] ++ ([] ++ G), .inl rfl, by rw [replay_none hkl (by rw [hstep, c]; rfl)]; rfl, by simp⟩
            · have c : (!(doP (mxR R) now (opAt ops ord[k])).2) = false := c
              have c : (doP (mxR R) now (opAt ops ord[k])).2 = true := by simpa using c
              exact nextS (k + 1, .nils, [], [] ++ G, (doP (mxR R) now (opAt ops ord[k])).1) (by show ord.length - (k + 1) < ord.length - k; omega) ⟨hkl, h3, by rw [hstep, c]; rfl, by show (doP (mxR R) now (opAt ops ord[k])).1.length ≤ k + 1; omega⟩ ⟨rfl, rfl, rfl, rfl, rfl, inc64 (by omega), trivial⟩ (.refl _)
          · refine bcond_split (fun c => ?_) (fun c => ?_)
            · have c : (!(doP (mxR R) now (opAt ops ord[k])).2) = true := c
              have c : (doP (mxR R) now (opAt ops ord[k])).2 = false := by simpa using c
              exact .done ⟨.nils, [(b4, all4)] ++ ([] ++ G), .inl rfl, by rw [replay_none hkl (by rw [hstep, c]; rfl)]; rfl, by simp⟩
            · have c : (!(doP (mxR R) now (opAt ops ord[k])).2) = false := c
              have c : (doP (mxR R) now (opAt ops ord[k])).2 = true := by simpa using c
              exact nextS (k + 1, .mref b4 off4 (doP (mxR R) now (opAt ops ord[k])).1.length 1, [(b4, all4)], [] ++ G, (doP (mxR R) now (opAt ops ord[k])).1) (by show ord.length - (k + 1) < ord.length - k; omega) ⟨hkl, h3, by rw [hstep, c]; rfl, by show (doP (mxR R) now (opAt ops ord[k])).1.length ≤ k + 1; omega⟩ ⟨rfl, rfl, rfl, rfl, rfl, inc64 (by omega), trivial⟩ (.refl _)
        · skip
          try refine With.mk rfl (IdxF.mk (opT (opAt ops ord[k])) hin.1 (op_get hin.1 hin.2) ?_)
          refine .perm _ (.refl _) (aDoO (mxR R) (opAt ops ord[k]) now (.mref b2 off2 now.length 1) [(b2, all2)] hx (by omega) ((b, inC ord) :: ([] ++ (G ++ σ)))) ?_
          rintro _ _ ⟨v2, acc3, rfl, h3, rfl⟩
          refine ⟨(b, inC ord) :: (acc3 ++ (([] ++ G) ++ σ)), by rw [List.append_assoc []]; exact List.perm_middle.symm, ?_⟩
          rcases accO_val h3 with ⟨rfl, rfl, h0⟩ | ⟨b4, off4, all4, rfl, rfl⟩
          · refine bcond_split (fun c => ?_) (fun c => ?_)
            · have c : (!(doP (mxR R) now (opAt ops ord[k])).2) = true := c
              have c : (doP (mxR R) now (opAt ops ord[k])).2 = false := by simpa using c
              exact .done ⟨.nils, [] ++ ([] ++ G), .inl rfl, by rw [replay_none hkl (by rw [hstep, c]; rfl)]; rfl, by simp⟩
            · have c : (!(doP (mxR R) now (opAt ops ord[k])).2) = false := c
              have c : (doP (mxR R) now (opAt ops ord[k])).2 = true := by simpa using c
              exact nextS (k + 1, .nils, [], [] ++ G, (doP (mxR R) now (opAt ops ord[k])).1) (by show ord.length - (k + 1) < ord.length - k; omega) ⟨hkl, h3, by rw [hstep, c]; rfl, by show (doP (mxR R) now (opAt ops ord[k])).1.length ≤ k + 1; omega⟩ ⟨rfl, rfl, rfl, rfl, rfl, inc64 (by omega), trivial⟩ (.refl _)
          · refine bcond_split (fun c => ?_) (fun c => ?_)
            · have c : (!(doP (mxR R) now (opAt ops ord[k])).2) = true := c
              have c : (doP (mxR R) now (opAt ops ord[k])).2 = false := by simpa using c
              exact .done ⟨.nils, [(b4, all4)] ++ ([] ++ G), .inl rfl, by rw [replay_none hkl (by rw [hstep, c]; rfl)]; rfl, by simp⟩
            · have c : (!(doP (mxR R) now (opAt ops ord[k])).2) = false := c
              have c : (doP (mxR R) now (opAt ops ord[k])).2 = true := by simpa using c
              exact nextS (k + 1, .mref b4 off4 (doP (mxR R) now (opAt ops ord[k])).1.length 1, [(b4, all4)], [] ++ G, (doP (mxR R) now (opAt ops ord[k])).1) (by show ord.length - (k + 1) < ord.length - k; omega) ⟨hkl, h3, by rw [hstep, c]; rfl, by show (doP (mxR R) now (opAt ops ord[k])).1.length ≤ k + 1; omega⟩ ⟨rfl, rfl, rfl, rfl, rfl, inc64 (by omega), trivial⟩ (.refl _)
    · refine .each (by kernel_rfl) ?_
      refine With.mk rfl (IdxF.mk (opT (opAt ops ord[k])) hin.1 (op_get hin.1 hin.2) ?_)
      refine And.intro ?_ ?_
      · refine .mk [] _ (aCloneO hacc _ (mem_cut _ _ _) (by omega)) ?_
        rintro x _ ⟨acc2, hx, rfl⟩
        rcases accO_val hx with ⟨rfl, rfl, hx0⟩ | ⟨b2, off2, all2, rfl, rfl⟩
        · skip
          try refine With.mk rfl (IdxF.mk (opT (opAt ops ord[k])) hin.1 (op_get hin.1 hin.2) ?_)
          refine .perm _ (.refl _) (aDoO (mxR R) (opAt ops ord[k]) now (.nils) [] hx (by omega) ((b, inC ord) :: ([(b1, all1)] ++ (G ++ σ)))) ?_
          rintro _ _ ⟨v2, acc3, rfl, h3, rfl⟩
          refine ⟨(b, inC ord) :: (acc3 ++ (([(b1, all1)] ++ G) ++ σ)), by rw [List.append_assoc [(b1, all1)]]; exact List.perm_middle.symm, ?_⟩
          rcases accO_val h3 with ⟨rfl, rfl, h0⟩ | ⟨b4, off4, all4, rfl, rfl⟩
          · refine bcond_split (fun c => ?_) (fun c => ?_)
            · have c : (!(doP (mxR R) now (opAt ops ord[k])).2) = true := c
              have c : (doP (mxR R) now (opAt ops ord[k])).2 = false := by simpa using c
              exact .done ⟨.nils, [] ++ ([(b1, all1)] ++ G), .inl rfl, by rw [replay_none hkl (by rw [hstep, c]; rfl)]; rfl, by simp⟩
            · have c : (!(doP (mxR R) now (opAt ops ord[k])).2) = false := c
              have c : (doP (mxR R) now (opAt ops ord[k])).2 = true := by simpa using c
              exact nextS (k + 1, .nils, [], [(b1, all1)] ++ G, (doP (mxR R) now (opAt ops ord[k])).1) (by show ord.length - (k + 1) < ord.length - k; omega) ⟨hkl, h3, by rw [hstep, c]; rfl, by show (doP (mxR R) now (opAt ops ord[k])).1.length ≤ k + 1; omega⟩ ⟨rfl, rfl, rfl, rfl, rfl, inc64 (by omega), trivial⟩ (.refl _)
          · refine bcond_split (fun c => ?_) (fun c => ?_)
            · have c : (!(doP (mxR R) now (opAt ops ord[k])).2) = true := c
              have c : (doP (mxR R) now (opAt ops ord[k])).2 = false := by simpa using c
              exact .done ⟨.nils, [(b4, all4)] ++ ([(b1, all1)] ++ G), .inl rfl, by rw [replay_none hkl (by rw [hstep, c]; rfl)]; rfl, by simp⟩
            · have c : (!(doP (mxR R) now (opAt ops ord[k])).2) = false := c
              have c : (doP (mxR R) now (opAt ops ord[k])).2 = true := by simpa using c
              exact nextS (k + 1, .mref b4 off4 (doP (mxR R) now (opAt ops ord[k])).1.length 1, [(b4, all4)], [(b1, all1)] ++ G, (doP (mxR R) now (opAt ops ord[k])).1) (by show ord.length - (k + 1) < ord.length - k; omega) ⟨hkl, h3, by rw [hstep, c]; rfl, by show (doP (mxR R) now (opAt ops ord[k])).1.length ≤ k + 1; omega⟩ ⟨rfl, rfl, rfl, rfl, rfl, inc64 (by omega), trivial⟩ (.refl _)
        · skip
          try refine With.mk rfl (IdxF.mk (opT (opAt ops ord[k])) hin.1 (op_get hin.1 hin.2) ?_)
          refine .perm _ (.refl _) (aDoO (mxR R) (opAt ops ord[k]) now (.mref b2 off2 now.length 1) [(b2, all2)] hx (by omega) ((b, inC ord) :: ([(b1, all1)] ++ (G ++ σ)))) ?_
          rintro _ _ ⟨v2, acc3, rfl, h3, rfl⟩
          refine ⟨(b, inC ord) :: (acc3 ++ (([(b1, all1)] ++ G) ++ σ)), by rw [List.append_assoc [(b1, all1)]]; exact List.perm_middle.symm, ?_⟩
          rcases accO_val h3 with ⟨rfl, rfl, h0⟩ | ⟨b4, off4, all4, rfl, rfl⟩
          · refine bcond_split (fun c => ?_) (fun c => ?_)
            · have c : (!(doP (mxR R) now (opAt ops ord[k])).2) = true := c
              have c : (doP (mxR R) now (opAt ops ord[k])).2 = false := by simpa using c
              exact .done ⟨.nils, [] ++ ([(b1, all1)] ++ G), .inl rfl, by rw [replay_none hkl (by rw [hstep, c]; rfl)]; rfl, by simp⟩
            · have c : (!(doP (mxR R) now (opAt ops ord[k])).2) = false := c
              have c : (doP (mxR R) now (opAt ops ord[k])).2 = true := by simpa using c
              exact nextS (k + 1, .nils, [], [(b1, all1)] ++ G, (doP (mxR R) now (opAt ops ord[k])).1) (by show ord.length - (k + 1) < ord.length - k; omega) ⟨hkl, h3, by rw [hstep, c]; rfl, by show (doP (mxR R) now (opAt ops ord[k])).1.length ≤ k + 1; omega⟩ ⟨rfl, rfl, rfl, rfl, rfl, inc64 (by omega), trivial⟩ (.refl _)
          · refine bcond_split (fun c => ?_) (fun c => ?_)
            · have c : (!(doP (mxR R) now (opAt ops ord[k])).2) = true := c
              have c : (doP (mxR R) now (opAt ops ord[k])).2 = false := by simpa using c
              exact .done ⟨.nils, [(b4, all4)] ++ ([(b1, all1)] ++ G), .inl rfl, by rw [replay_none hkl (by rw [hstep, c]; rfl)]; rfl, by simp⟩
            · have c : (!(doP (mxR R) now (opAt ops ord[k])).2) = false := c
              have c : (doP (mxR R) now (opAt ops ord[k])).2 = true := by simpa using c
              exact nextS (k + 1, .mref b4 off4 (doP (mxR R) now (opAt ops ord[k])).1.length 1, [(b4, all4)], [(b1, all1)] ++ G, (doP (mxR R) now (opAt ops ord[k])).1) (by show ord.length - (k + 1) < ord.length - k; omega) ⟨hkl, h3, by rw [hstep, c]; rfl, by show (doP (mxR R) now (opAt ops ord[k])).1.length ≤ k + 1; omega⟩ ⟨rfl, rfl, rfl, rfl, rfl, inc64 (by omega), trivial⟩ (.refl _)
      · refine .mk [] _ (aCloneO hacc _ (mem_cut _ _ _) (by omega)) ?_
        rintro x _ ⟨acc2, hx, rfl⟩
        rcases accO_val hx with ⟨rfl, rfl, hx0⟩ | ⟨b2, off2, all2, rfl, rfl⟩
        · skip
          try refine With.mk rfl (IdxF.mk (opT (opAt ops ord[k])) hin.1 (op_get hin.1 hin.2) ?_)
          refine .perm _ (.refl _) (aDoO (mxR R) (opAt ops ord[k]) now (.nils) [] hx (by omega) ((b, inC ord) :: ([(b1, all1)] ++ (G ++ σ)))) ?_
          rintro _ _ ⟨v2, acc3, rfl, h3, rfl⟩
          refine ⟨(b, inC ord) :: (acc3 ++ (([(b1, all1)] ++ G) ++ σ)), by rw [List.append_assoc [(b1, all1)]]; exact List.perm_middle.symm, ?_⟩
          rcases accO_val h3 with ⟨rfl, rfl, h0⟩ | ⟨b4, off4, all4, rfl, rfl⟩
          · refine bcond_split (fun c => ?_) (fun c => ?_)
            · have c : (!(doP (mxR R) now (opAt ops ord[k])).2) = true := c
              have c : (doP (mxR R) now (opAt ops ord[k])).2 = false := by simpa using c
              exact .done ⟨.nils, [] ++ ([(b1, all1)] ++ G), .inl rfl, by rw [replay_none hkl (by rw [hstep, c]; rfl)]; rfl, by simp⟩
            · have c : (!(doP (mxR R) now (opAt ops ord[k])).2) = false := c
              have c : (doP (mxR R) now (opAt ops ord[k])).2 = true := by simpa using c
              exact nextS (k + 1, .nils, [], [(b1, all1)] ++ G, (doP (mxR R) now (opAt ops ord[k])).1) (by show ord.length - (k + 1) < ord.length - k; omega) ⟨hkl, h3, by rw [hstep, c]; rfl, by show (doP (mxR R) now (opAt ops ord[k])).1.length ≤ k + 1; omega⟩ ⟨rfl, rfl, rfl, rfl, rfl, inc64 (by omega), trivial⟩ (.refl _)
          · refine bcond_split (fun c => ?_) (fun c => ?_)
            · have c : (!(doP (mxR R) now (opAt ops ord[k])).2) = true := c
              have c : (doP (mxR R) now (opAt ops ord[k])).2 = false := by simpa using c
              exact .done ⟨.nils, [(b4, all4)] ++ ([(b1, all1)] ++ G), .inl rfl, by rw [replay_none hkl (by rw [hstep, c]; rfl)]; rfl, by simp⟩
            · have c : (!(doP (mxR R) now (opAt ops ord[k])).2) = false := c
              have c : (doP (mxR R) now (opAt ops ord[k])).2 = true := by simpa using c
              exact nextS (k + 1, .mref b4 off4 (doP (mxR R) now (opAt ops ord[k])).1.length 1, [(b4, all4)], [(b1, all1)] ++ G, (doP (mxR R) now (opAt ops ord[k])).1) (by show ord.length - (k + 1) < ord.length - k; omega) ⟨hkl, h3, by rw [hstep, c]; rfl, by show (doP (mxR R) now (opAt ops ord[k])).1.length ≤ k + 1; omega⟩ ⟨rfl, rfl, rfl, rfl, rfl, inc64 (by omega), trivial⟩ (.refl _)
        · skip
          try refine With.mk rfl (IdxF.mk (opT (opAt ops ord[k])) hin.1 (op_get hin.1 hin.2) ?_)
          refine .perm _ (.refl _) (aDoO (mxR R) (opAt ops ord[k]) now (.mref b2 off2 now.length 1) [(b2, all2)] hx (by omega) ((b, inC ord) :: ([(b1, all1)] ++ (G ++ σ)))) ?_
          rintro _ _ ⟨v2, acc3, rfl, h3, rfl⟩
          refine ⟨(b, inC ord) :: (acc3 ++ (([(b1, all1)] ++ G) ++ σ)), by rw [List.append_assoc [(b1, all1)]]; exact List.perm_middle.symm, ?_⟩
          rcases accO_val h3 with ⟨rfl, rfl, h0⟩ | ⟨b4, off4, all4, rfl, rfl⟩
          · refine bcond_split (fun c => ?_) (fun c => ?_)
            · have c : (!(doP (mxR R) now (opAt ops ord[k])).2) = true := c
              have c : (doP (mxR R) now (opAt ops ord[k])).2 = false := by simpa using c
              exact .done ⟨.nils, [] ++ ([(b1, all1)] ++ G), .inl rfl, by rw [replay_none hkl (by rw [hstep, c]; rfl)]; rfl, by simp⟩
            · have c : (!(doP (mxR R) now (opAt ops ord[k])).2) = false := c
              have c : (doP (mxR R) now (opAt ops ord[k])).2 = true := by simpa using c
              exact nextS (k + 1, .nils, [], [(b1, all1)] ++ G, (doP (mxR R) now (opAt ops ord[k])).1) (by show ord.length - (k + 1) < ord.length - k; omega) ⟨hkl, h3, by rw [hstep, c]; rfl, by show (doP (mxR R) now (opAt ops ord[k])).1.length ≤ k + 1; omega⟩ ⟨rfl, rfl, rfl, rfl, rfl, inc64 (by omega), trivial⟩ (.refl _)
          · refine bcond_split (fun c => ?_) (fun c => ?_)
            · have c : (!(doP (mxR R) now (opAt ops ord[k])).2) = true := c
              have c : (doP (mxR R) now (opAt ops ord[k])).2 = false := by simpa using c
              exact .done ⟨.nils, [(b4, all4)] ++ ([(b1, all1)] ++ G), .inl rfl, by rw [replay_none hkl (by rw [hstep, c]; rfl)]; rfl, by simp⟩
            · have c : (!(doP (mxR R) now (opAt ops ord[k])).2) = false := c
              have c : (doP (mxR R) now (opAt ops ord[k])).2 = true := by simpa using c
              exact nextS (k + 1, .mref b4 off4 (doP (mxR R) now (opAt ops ord[k])).1.length 1, [(b4, all4)], [(b1, all1)] ++ G, (doP (mxR R) now (opAt ops ord[k])).1) (by show ord.length - (k + 1) < ord.length - k; omega) ⟨hkl, h3, by rw [hstep, c]; rfl, by show (doP (mxR R) now (opAt ops ord[k])).1.length ≤ k + 1; omega⟩ ⟨rfl, rfl, rfl, rfl, rfl, inc64 (by omega), trivial⟩ (.refl _)
  · have hge : k = ord.length := by have hge : ¬ (k : Int) < ord.length := hge; omega
    have hrq : replayP (mxR R) ops [] ord = some now := by rw [hge, List.take_length] at hrep; exact hrep
    rcases accO_val hacc with ⟨rfl, rfl, hn0⟩ | ⟨b1, off1, all1, rfl, rfl⟩
    · exact .done ⟨.nils, [] ++ G, .inl rfl, by rw [hrq]; rfl, by simp⟩
    · exact .done ⟨.mref b1 off1 now.length 1, [(b1, all1)] ++ G, .inr ⟨_, _, _, rfl⟩, by rw [hrq]; rfl, by simp⟩
end Go.Proofs.Ytacacplipaeokaa
