/- A set's names in order: scope.sorted. No condition. -/
import Derived.Test.YtjeiboididfgmaaGreatDoorZb
import Derived.Test.YtjeiboididfgmaaGreatDoorYe
set_option linter.unusedVariables false
set_option linter.unusedSimpArgs false
set_option linter.defProp false
set_option maxRecDepth 100000
namespace Go.V
open Go Go.Proofs.Tryz

/-- The keys with the numbers js, as calls of a loop's body. -/
def keysAt (es : List (AV × AV)) (js : List Nat) : List (List AV) := js.filterMap fun j => (es[j]?).map fun e => [e.1]
def KNx (es : List (AV × AV)) (hs : List (List AV)) (x : List AV) : Prop := ∃ js j e, hs = keysAt es js ∧ js.Nodup ∧ (∀ i ∈ js, i < es.length) ∧ j ∉ js ∧ es[j]? = some e ∧ x = [e.1]
def KDn (es : List (AV × AV)) (hs : List (List AV)) : Prop := ∃ js, hs = keysAt es js ∧ js.Nodup ∧ (∀ i ∈ js, i < es.length) ∧ ∀ j, j < es.length → j ∈ js
theorem keysAt_snoc {es : List (AV × AV)} {js : List Nat} {j : Nat} {e : AV × AV} (h : es[j]? = some e) : keysAt es (js ++ [j]) = keysAt es js ++ [[e.1]] := by
  simp [keysAt, List.filterMap_append, h]

theorem nodup_lt : ∀ {n : Nat} {js : List Nat}, js.Nodup → (∀ i ∈ js, i < n) → js.length ≤ n
  | 0, js, _, hl => by
    cases js with
    | nil => exact Nat.le_refl _
    | cons j js => exact absurd (hl j (by simp)) (by omega)
  | n + 1, js, h, hl => by
    have h1 := nodup_lt (n := n) (js := js.erase n) (h.erase n) (fun i hi => by
      have := (h.mem_erase_iff).1 hi
      have := hl i this.2
      omega)
    by_cases hm : n ∈ js
    · rw [List.length_erase_of_mem hm] at h1; omega
    · rw [List.erase_of_not_mem hm] at h1; omega
section
variable {G : GT} {H : HM}
theorem Fin_dropN {P : Program} {fn : Func} {K : ARes → HM → Prop} {tm : Nat → AV} {v : AV} {H1 : HM} (hv : vresults P fn H tm = some v) (hd : Drop H H1) (hk : K (.ret v) H1) : Fin P G fn K .normal ⟨tm, H, []⟩ :=
  ⟨(fun d hd => by cases hd), v, v, H1, hv, hd, View.of_drop hd v, hk⟩
/-- An iterator that is run beside an object of its own. -/
def IterF (P : Program) (G : GT) (gf : FuncId) (first cap : List AV) (Nx : List (List AV) → List AV → Prop) (Dn : List (List AV) → Prop) : Prop :=
  Plain P gf = true ∧ ∀ (l : Nat) (I : List (List AV) → HM → Prop) (H : HM), I [] H →
    (∀ hs x b o H', Nx hs x → I hs H' → H' b = none → CallV P G (.func (.yield l) [] []) x (H'.upd b o) fun r H'' => r = .ret (.bool true) ∧ ∃ H1, H1 b = none ∧ H'' = H1.upd b o ∧ I (hs ++ [x]) H1) →
    CallF P G gf (first ++ [.func (.yield l) [] []] ++ cap) H fun r H' => r = .ret .unit ∧ ∃ hs, Dn hs ∧ I hs H'

theorem keys1_it (es : List (AV × AV)) : IterF prog G 134 [] [.ref [.imap es]] (KNx es) (KDn es) := by
  refine ⟨by kernel_rfl, fun l I H hI hy => ?_⟩
  show CallF prog G _ [.func (.yield l) [] [], .ref [.imap es]] H _
  refine CallF_body (fn := f134) func134 rfl (by kernel_rfl) (Nat.le_of_ble_eq_true (by kernel_rfl)) ?_
  first | refine VW_reg [] fun N E hN hE => ?_ | (refine VW_seq ?_; refine VW_reg [] fun N E hN hE => ?_) | (refine VW_seq ?_; refine VW_seq ?_; refine VW_reg [] fun N E hN hE => ?_) | (refine VW_seq ?_; refine VW_seq ?_; refine VW_seq ?_; refine VW_reg [] fun N E hN hE => ?_) | refine VW_regE [] fun N E hN hE => ?_ | (refine VW_seq ?_; refine VW_regE [] fun N E hN hE => ?_)
  simp (decide := true) only [VS, WS, TS, ES, ↓reduceIte, Nat.reduceAdd]
  refine wnew_intro fun b hb => ?_
  simp (decide := true) only [VS, WS, TS, ES, ↓reduceIte, Nat.reduceAdd]
  refine hN _ ?_
  clear hN hE N E
  first | refine VW_block ?_ | refine VW_seq (VW_block ?_) | refine VW_seq (VW_seq (VW_block ?_))
  refine VW_loopI (fun js s' => js.Nodup ∧ (∀ i ∈ js, i < es.length) ∧ s'.tmps 0 = .func (.yield l) [] [] ∧ s'.tmps 5 = .addr b 0 ∧ s'.defs = [] ∧ ∃ H1, H1 b = none ∧ s'.H = H1.upd b (.miter es js) ∧ I (keysAt es js) H1)
    (fun js => es.length - js.length) [] ?_ ?_
  · exact ⟨.nil, by simp, rfl, rfl, rfl, H, hb, rfl, hI⟩
  rintro js ⟨tm, H', ds⟩ ⟨hnd, hlt, h0, h5, hds, H1, hb1, hH, hI1⟩
  obtain rfl : H' = H1.upd b (.miter es js) := hH
  obtain rfl : ds = [] := hds
  have hbs : (H1.upd b (.miter es js)) b = some (.miter es js) := HM.upd_same _ _ _
  refine VW_know 0 _ h0 (VW_know 5 _ h5 ?_)
  first | refine VW_reg [] fun N E hN hE => ?_ | (refine VW_seq ?_; refine VW_reg [] fun N E hN hE => ?_) | (refine VW_seq ?_; refine VW_seq ?_; refine VW_reg [] fun N E hN hE => ?_) | (refine VW_seq ?_; refine VW_seq ?_; refine VW_seq ?_; refine VW_reg [] fun N E hN hE => ?_) | refine VW_regE [] fun N E hN hE => ?_ | (refine VW_seq ?_; refine VW_regE [] fun N E hN hE => ?_)
  simp (decide := true) only [VS, WS, TS, ES, ↓reduceIte, Nat.reduceAdd, hbs]
  refine ⟨fun hall => ?_, fun j e hj hjn => ?_⟩
  · simp (decide := true) only [VS, WS, TS, ES, ↓reduceIte, Nat.reduceAdd]
    refine hN _ ?_
    clear hN hE N E
    first | refine VW_if rfl (fun hc => ?_) (fun hc => ?_) | refine VW_seq (VW_if rfl (fun hc => ?_) (fun hc => ?_))
    · cases hc
    · refine VW_exit ?_
      simp only [AX.then, AX.inBlock, ↓reduceIte]
      exact Fin_dropN (vresults_none rfl) (Drop.upd hb1) ⟨rfl, keysAt es js, ⟨js, rfl, hnd, hlt, hall⟩, hI1⟩
  · simp (decide := true) only [VS, WS, TS, ES, ↓reduceIte, Nat.reduceAdd]
    refine hN _ ?_
    clear hN hE N E
    first | refine VW_if rfl (fun hc => ?_) (fun hc => ?_) | refine VW_seq (VW_if rfl (fun hc => ?_) (fun hc => ?_))
    · refine VW_skip ?_
      first | refine VW_block ?_ | refine VW_seq (VW_block ?_) | refine VW_seq (VW_seq (VW_block ?_))
      have hbs2 : (H1.upd b (.miter es (js ++ [j]))) b = some (.miter es (js ++ [j])) := HM.upd_same _ _ _
      first | refine VW_reg [] fun N E hN hE => ?_ | (refine VW_seq ?_; refine VW_reg [] fun N E hN hE => ?_) | (refine VW_seq ?_; refine VW_seq ?_; refine VW_reg [] fun N E hN hE => ?_) | (refine VW_seq ?_; refine VW_seq ?_; refine VW_seq ?_; refine VW_reg [] fun N E hN hE => ?_) | refine VW_regE [] fun N E hN hE => ?_ | (refine VW_seq ?_; refine VW_regE [] fun N E hN hE => ?_)
      simp (decide := true) only [VS, WS, TS, ES, ↓reduceIte, Nat.reduceAdd, HM.upd_upd]
      refine wen_ok hbs2 hj ?_
      simp (decide := true) only [VS, WS, TS, ES, ↓reduceIte, Nat.reduceAdd]
      refine hN _ ?_
      clear hN hE N E
      first | refine VW_reg [] fun N E hN hE => ?_ | (refine VW_seq ?_; refine VW_reg [] fun N E hN hE => ?_) | (refine VW_seq ?_; refine VW_seq ?_; refine VW_reg [] fun N E hN hE => ?_) | (refine VW_seq ?_; refine VW_seq ?_; refine VW_seq ?_; refine VW_reg [] fun N E hN hE => ?_) | refine VW_regE [] fun N E hN hE => ?_ | (refine VW_seq ?_; refine VW_regE [] fun N E hN hE => ?_)
      simp (decide := true) only [VS, WS, TS, ES, ↓reduceIte, Nat.reduceAdd]
      have hnd2 : (js ++ [j]).Nodup := by
        rw [List.nodup_append]; simp [hnd]; exact fun a ha e => hjn (e ▸ ha)
      have hlt2 : ∀ i ∈ js ++ [j], i < es.length := by
        intro i hi
        rcases List.mem_append.1 hi with h | h
        · exact hlt i h
        · simp at h; subst h; exact (List.getElem?_eq_some_iff.1 hj).1
      refine CallV.mono (hy (keysAt es js) [e.1] b (.miter es (js ++ [j])) H1 ⟨js, j, e, rfl, hnd, hlt, hjn, hj, rfl⟩ hI1 hb1) ?_
      rintro r H'' ⟨rfl, H2, hb2, rfl, hI2⟩
      rw [← keysAt_snoc hj] at hI2
      rw [kont_ret]
      simp (decide := true) only [VS, WS, TS, ES, ↓reduceIte, Nat.reduceAdd]
      refine hN _ ?_
      clear hN hE N E
      first | refine VW_if rfl (fun hc => ?_) (fun hc => ?_) | refine VW_seq (VW_if rfl (fun hc => ?_) (fun hc => ?_))
      · cases hc
      · refine VW_skip ?_
        refine ⟨js ++ [j], ⟨hnd2, hlt2, rfl, rfl, rfl, H2, hb2, rfl, hI2⟩, ?_⟩
        have : js.length < es.length := by
          have := nodup_lt hnd2 hlt2
          simp at this; omega
        simp; omega
    · cases hc

theorem VW_name {P : Program} {n : Nat} {r : Option Nat} {Q : AX → AS → Prop} {c : Code} {tm : Nat → AV} {ds : List ADef} (h : ∀ tm', tm' = tm → VW P G n r c Q ⟨tm', H, ds⟩) : VW P G n r c Q ⟨tm, H, ds⟩ := h tm rfl
theorem drop_box {H0 H1 : HM} {b c : Nat} {o x y : AObj} (hc : b ≠ c) (h : Drop H1 ((H0.upd c x).upd b o)) : Drop (H1.upd c y) ((H0.upd c y).upd b o) := fun k => by
  by_cases hk : k = c
  · subst hk
    right; rw [HM.upd_ne _ _ (Ne.symm hc), HM.upd_same, HM.upd_same]
  · have := h k
    by_cases hb : k = b
    · subst hb
      rw [HM.upd_same] at this ⊢
      rw [HM.upd_ne _ _ hk]; exact this
    · rw [HM.upd_ne _ _ hb, HM.upd_ne _ _ hk] at this ⊢
      rw [HM.upd_ne _ _ hk]; exact this
theorem OutG.box {H0 H1 : HM} {c : Nat} {x y : AObj} {v : AV} {e sz : Nat} {xs : List AV} (h : OutG (H0.upd c x) H1 v e sz xs) : OutG (H0.upd c y) (H1.upd c y) v e sz xs := by
  rcases h with ⟨h1, h2, h⟩ | ⟨b, cap, h1, h2, h⟩
  · refine .inl ⟨h1, h2, fun k => ?_⟩
    by_cases hk : k = c
    · subst hk; right; rw [HM.upd_same, HM.upd_same]
    · have := h k; rw [HM.upd_ne _ _ hk] at this ⊢; rw [HM.upd_ne _ _ hk]; exact this
  · have hbc : b ≠ c := fun e => by rw [e, HM.upd_same] at h1; cases h1
    exact .inr ⟨b, cap, by rw [HM.upd_ne _ _ hbc] at h1 ⊢; exact h1, h2, drop_box hbc h⟩
/-- What has grown beside one more object. -/
theorem OutG.beside {H0 H1 : HM} {b : Nat} {o : AObj} {v : AV} {e sz : Nat} {xs : List AV} (h : OutG H0 H1 v e sz xs) (hb : H1 b = none) : OutG (H0.upd b o) (H1.upd b o) v e sz xs := by
  have key : ∀ {H2 : HM}, Drop H1 H2 → Drop (H1.upd b o) (H2.upd b o) := fun hd k => by
    by_cases hk : k = b
    · subst hk; right; rw [HM.upd_same, HM.upd_same]
    · rw [HM.upd_ne _ _ hk, HM.upd_ne _ _ hk]; exact hd k
  rcases h with ⟨h1, h2, h⟩ | ⟨b2, cap, h1, h2, h⟩
  · exact .inl ⟨h1, h2, key h⟩
  · have hne : b2 ≠ b := fun e => by have := h.get; rw [e, hb] at this; cases this
    refine .inr ⟨b2, cap, by rw [HM.upd_ne _ _ hne]; exact h1, h2, ?_⟩
    have := key h
    rwa [HM.upd_comm _ _ _ hne] at this
/-- Only what has grown is kept. -/
theorem OutG.least {H0 H1 : HM} {v : AV} {e sz : Nat} {xs : List AV} (h : OutG H0 H1 v e sz xs) : ∃ H2, Drop H1 H2 ∧ OutG H0 H2 v e sz xs ∧ ∀ k, H2 k = none ∨ (H0 k = none → H2 k = H1 k) := by
  rcases h with ⟨h1, h2, h⟩ | ⟨b, cap, h1, h2, h⟩
  · exact ⟨H0, h, .inl ⟨h1, h2, Drop.refl _⟩, fun k => by
      cases e : H0 k with
      | none => exact .inl rfl
      | some _ => exact .inr fun q => by cases q⟩
  · refine ⟨_, h, .inr ⟨b, cap, h1, h2, Drop.refl _⟩, fun k => ?_⟩
    rcases h k with q | q
    · exact .inl q
    · exact .inr fun _ => q
theorem OutG.unbox {H1 : HM} {c : Nat} {x : AObj} {v : AV} {e sz : Nat} {xs : List AV} (hc : H c = none) (h : OutG (H.upd c x) H1 v e sz xs) : OutG H H1 v e sz xs := by
  rcases h with ⟨h1, h2, h⟩ | ⟨b, cap, h1, h2, h⟩
  · exact .inl ⟨h1, h2, h.trans (Drop.upd hc)⟩
  · have hbc : b ≠ c := fun e => by rw [e, HM.upd_same] at h1; cases h1
    rw [HM.upd_ne _ _ hbc] at h1
    refine .inr ⟨b, cap, h1, h2, h.trans ?_⟩
    rw [HM.upd_comm _ _ _ (Ne.symm hbc)]
    exact Drop.upd (by rw [HM.upd_ne _ _ (Ne.symm hbc)]; exact hc)
theorem OutG.get0 {H0 H1 : HM} {b : Nat} {o : AObj} {v : AV} {e sz : Nat} {xs : List AV} (h : OutG H0 H1 v e sz xs) (hb : H0 b = some o) : H1 b = some o := by
  rcases h.drop b with q | q
  · rw [hb] at q; cases q
  · rw [hb] at q; exact q.symm
theorem del_beside {l b : Nat} {o x : AObj} (hl : H l = none) (hb : b ≠ l) : ((H.upd l x).upd b o).del l = H.upd b o := by
  funext k
  unfold HM.del
  by_cases hk : k = l
  · subst hk; rw [if_pos rfl, HM.upd_ne _ _ (Ne.symm hb), hl]
  · rw [if_neg hk]
    by_cases hkb : k = b
    · subst hkb; rw [HM.upd_same, HM.upd_same]
    · rw [HM.upd_ne _ _ hkb, HM.upd_ne _ _ hkb, HM.upd_ne _ _ hk]
theorem keysAt_len (es : List (AV × AV)) (js : List Nat) : (keysAt es js).length ≤ js.length := List.length_filterMap_le _ _
theorem keysAt_flat (es : List (AV × AV)) : ∀ js, (keysAt es js).flatten.length ≤ js.length
  | [] => Nat.le_refl _
  | j :: js => by
    have := keysAt_flat es js
    unfold keysAt at this ⊢
    rw [List.filterMap_cons]
    cases es[j]? with
    | none => simp only [Option.map_none, List.length_cons]; omega
    | some e => simp only [Option.map_some, List.flatten_cons, List.length_append, List.length_cons, List.length_nil]; omega
theorem append_c (es : List (AV × AV)) (hes : ∀ e ∈ es, ∃ s, e.1 = .str s) (hl : es.length ≤ lim) {K : ARes → HM → Prop} (hk : ∀ v H' hs, KDn es hs → OutG H H' v 9 1 hs.flatten → K (.ret v) H') :
    CallF prog G 161 [.nil0, .func (.func 134) [] [.ref [.imap es]]] H K := by
  refine CallF_body (fn := f161) func161 rfl (by kernel_rfl) (Nat.le_of_ble_eq_true (by kernel_rfl)) ?_
  first | refine VW_reg [2] fun N E hN hE => ?_ | (refine VW_seq ?_; refine VW_reg [2] fun N E hN hE => ?_) | (refine VW_seq ?_; refine VW_seq ?_; refine VW_reg [2] fun N E hN hE => ?_) | (refine VW_seq ?_; refine VW_seq ?_; refine VW_seq ?_; refine VW_reg [2] fun N E hN hE => ?_) | refine VW_regE [2] fun N E hN hE => ?_ | (refine VW_seq ?_; refine VW_regE [2] fun N E hN hE => ?_)
  simp (decide := true) only [VS, WS, TS, ES, ↓reduceIte, Nat.reduceAdd]
  refine wnew_intro fun c hc => ?_
  simp (decide := true) only [VS, WS, TS, ES, ↓reduceIte, Nat.reduceAdd]
  refine hN _ ?_
  clear hN hE N E
  first | refine VW_reg [] fun N E hN hE => ?_ | (refine VW_seq ?_; refine VW_reg [] fun N E hN hE => ?_) | (refine VW_seq ?_; refine VW_seq ?_; refine VW_reg [] fun N E hN hE => ?_) | (refine VW_seq ?_; refine VW_seq ?_; refine VW_seq ?_; refine VW_reg [] fun N E hN hE => ?_) | refine VW_regE [] fun N E hN hE => ?_ | (refine VW_seq ?_; refine VW_regE [] fun N E hN hE => ?_)
  simp (decide := true) only [VS, WS, TS, ES, ↓reduceIte, Nat.reduceAdd]
  refine hN _ ?_
  clear hN hE N E
  first | refine VW_block ?_ | refine VW_seq (VW_block ?_) | refine VW_seq (VW_seq (VW_block ?_))
  refine VW_name fun tm htm => ?_
  have t2 : tm 2 = .addr c 0 := by rw [htm]; rfl
  have t6 : tm 6 = .func (.func 134) [] [.ref [.imap es]] := by rw [htm]; rfl
  clear htm
  refine VW_rangeFuncG (gf := 134) (first := []) (cap := [.ref [.imap es]]) t6 (by kernel_rfl) fun l rec hl h1 h2 h3 h4 h5 h6 => ?_
  refine CallF.mono ((keys1_it es).2 l (fun hs H' => ∃ Hs v, H' = Hs.upd l (.loop rec tm) ∧ Hs l = none ∧ OutG (H.upd c (.cells 23 [v])) Hs v 9 1 hs.flatten) _ ⟨_, _, rfl, hl, OutG.nil (Drop.refl _) 9 1⟩ ?_) ?_
  · rintro hs x b o H' ⟨js, j, e, rfl, hnd, hlt, hjn, hj, rfl⟩ ⟨Hs, v, rfl, hsl, ho⟩ hb
    obtain ⟨hbl, hbs⟩ := upd_fresh hb
    obtain ⟨s, hes'⟩ := hes e (List.mem_of_getElem? hj)
    rw [hes']
    have hlen : (keysAt es js).flatten.length < lim := by
      have q1 := keysAt_flat es js
      have q2 := nodup_lt (js := js ++ [j]) (n := es.length) (by rw [List.nodup_append]; simp [hnd]; exact fun a ha e => hjn (e ▸ ha)) (by
        intro i hi
        rcases List.mem_append.1 hi with h | h
        · exact hlt i h
        · simp at h; subst h; exact (List.getElem?_eq_some_iff.1 hj).1)
      simp at q2; omega
    have hbo := ho.beside (o := o) hbs
    have hcH : Hs c = some (.cells 23 [v]) := ho.get0 (HM.upd_same _ _ _)
    have hcb : c ≠ b := fun e => by rw [e, hbs] at hcH; cases hcH
    have hcs : (Hs.upd b o) c = some (.cells 23 [v]) := by rw [HM.upd_ne _ _ hcb]; exact hcH
    refine yield_call (n := 13) (rec := rec) (ps := [7]) (Inv := fun H1 => ∃ Hs' v', H1 = Hs'.upd b o ∧ Hs' b = none ∧ OutG (H.upd c (.cells 23 [v'])) Hs' v' 9 1 (keysAt es js ++ [[AV.str s]]).flatten) (J := fun _ _ => False)
      h1 rfl h2 h3 h4 h6 (by decide) (by rw [HM.upd_ne _ _ (Ne.symm hbl), HM.upd_same]) (by kernel_rfl) (by kernel_rfl) ?_ ?_ ?_
    · rw [del_beside hsl hbl]
      simp only [setPs, List.zip, List.zipWith, List.foldl]
      refine VW_regE [] fun N E hN hE => ?_
      simp (decide := true) only [VS, WS, TS, ES, ↓reduceIte, Nat.reduceAdd]
      refine hN _ ?_
      clear hN hE N E
      refine ⟨rfl, ?_⟩
      first | refine VW_block ?_ | refine VW_seq (VW_block ?_) | refine VW_seq (VW_seq (VW_block ?_))
      refine VW_regE [] fun N E hN hE => ?_
      simp (decide := true) only [VS, WS, TS, ES, ↓reduceIte, Nat.reduceAdd, hcs, t2]
      refine ⟨bs_ok (by kernel_rfl) (all_one ⟨rfl, rfl⟩), ?_⟩
      refine vappend_out (by kernel_rfl) hbo rfl (fun _ _ _ e => by cases e) (all_one rfl) (by simp only [List.length_cons, List.length_nil]; omega) fun v' H2 ho2 => ?_
      rw [kont_ret]
      have hcc : H2 c = some (.cells 23 [v]) := ho2.get0 (by rw [HM.upd_ne _ _ hcb, HM.upd_same])
      have hv1 : v'.cells = [v'] := by rcases ho2 with ⟨_, rfl, _⟩ | ⟨_, _, _, rfl, _⟩ <;> rfl
      have hv2 := ho2.one
      simp (decide := true) only [VS, WS, TS, ES, ↓reduceIte, Nat.reduceAdd, hcc, hv1, hv2, t2]
      refine hN _ ?_
      have ho3 := ho2
      rw [HM.upd_comm _ _ _ hcb] at ho3
      have ho4 := ho3.box (y := .cells 23 [v'])
      rw [HM.upd_comm _ _ _ (Ne.symm hcb)] at ho4
      have hbf : (H.upd c (.cells 23 [v'])) b = none := by
        have := ho.drop b
        rw [hbs, HM.upd_ne _ _ (Ne.symm hcb)] at this
        rw [HM.upd_ne _ _ (Ne.symm hcb)]
        rcases this with q | q <;> exact q
      refine ⟨rfl, ?_⟩
      have hfl : (keysAt es js ++ [[AV.str s]]).flatten = (keysAt es js).flatten ++ [AV.str s] := by simp
      rw [← hfl] at ho4
      rcases ho4 with ⟨q1, q2, q3⟩ | ⟨b2, cap, q1, q2, q3⟩
      · rw [hfl] at q1; exact absurd q1 (by simp)
      · have hb2 : b2 ≠ b := fun e => by rw [e, HM.upd_same] at q1; cases q1
        rw [HM.upd_ne _ _ hb2] at q1
        refine ⟨((H.upd c (.cells 23 [v'])).upd b2 (.row 9 1 cap _)).upd b o, ?_, _, v', rfl, ?_, .inr ⟨b2, cap, q1, ?_, Drop.refl _⟩⟩
        · rw [HM.upd_comm _ _ _ hb2]; exact q3
        · rw [HM.upd_ne _ _ (Ne.symm hb2)]; exact hbf
        · exact q2
    · rintro H1 hn ⟨Hs', v', rfl, q1, q2⟩
      refine ⟨rfl, Hs'.upd l (.loop rec tm), by rw [HM.upd_ne _ _ hbl]; exact q1, ?_, Hs', v', rfl, ?_, q2⟩
      · rw [HM.upd_comm _ _ _ hbl]
        have : ({ rec with state := .ready, pending := none } : Loop) = rec := by cases rec; simp only at h4 h5; subst h4; subst h5; rfl
        rw [this]
      · rwa [HM.upd_ne _ _ (Ne.symm hbl)] at hn
    · rintro H1 X c' _ _ hJ
      exact hJ.elim
  · rintro r H' ⟨rfl, hs, hD, Hs, v, rfl, hsl, ho⟩
    refine ⟨.unit, Hs, rec, tm, rfl, hsl, rfl, by rw [h4]; decide, fun D hDn hm => ⟨fun _ => ?_, fun c' hc' => by rw [h5] at hc'; cases hc'⟩⟩
    have hcH : Hs c = some (.cells 23 [v]) := ho.get0 (HM.upd_same _ _ _)
    first | refine VW_reg [] fun N E hN hE => ?_ | (refine VW_seq ?_; refine VW_reg [] fun N E hN hE => ?_) | (refine VW_seq ?_; refine VW_seq ?_; refine VW_reg [] fun N E hN hE => ?_) | (refine VW_seq ?_; refine VW_seq ?_; refine VW_seq ?_; refine VW_reg [] fun N E hN hE => ?_) | refine VW_regE [] fun N E hN hE => ?_ | (refine VW_seq ?_; refine VW_regE [] fun N E hN hE => ?_)
    simp (decide := true) only [VS, WS, TS, ES, ↓reduceIte, Nat.reduceAdd, hcH, t2]
    refine hN _ ?_
    clear hN hE N E
    refine VW_ret ⟨fun d hd => ?_, v, v, Hs, ?_, Drop.refl _, View.refl _, hk _ _ _ hD (ho.unbox hc)⟩
    · simp at hd; exact ⟨_, hd⟩
    · rw [vresults_one 4 rfl]; simp (decide := true) only [upd_eq, putT_some, WS, ES, ↓reduceIte, Nat.reduceAdd]
/-- The keys of a set. -/
def keyStrs : List (AV × AV) → List ByteArray
  | [] => []
  | (.val (.string s), _) :: es => s :: keyStrs es
  | _ :: es => keyStrs es
theorem keyStrs_map : ∀ {es : List (AV × AV)}, (∀ e ∈ es, ∃ s, e.1 = .str s) → strs (keyStrs es) = es.map (·.1)
  | [], _ => rfl
  | (k, v) :: es, h => by
    obtain ⟨s, hs⟩ := h (k, v) (by simp)
    simp only at hs
    subst hs
    have := keyStrs_map (es := es) fun e he => h e (by simp [he])
    simp only [keyStrs, strs, List.map_cons] at this ⊢
    rw [this]
theorem KDn_perm {es : List (AV × AV)} {hs : List (List AV)} (h : KDn es hs) : hs.flatten.Perm (es.map (·.1)) := by
  obtain ⟨js, rfl, hnd, hlt, hall⟩ := h
  have h1 : (keysAt es js).flatten = js.filterMap fun j => (es[j]?).map (·.1) := by
    clear hnd hlt hall
    induction js with
    | nil => rfl
    | cons j js ih =>
      unfold keysAt at ih ⊢
      rw [List.filterMap_cons, List.filterMap_cons]
      cases es[j]? with
      | none => exact ih
      | some e => simp only [Option.map_some, List.flatten_cons, ih]; rfl
  have h2 : js.Perm (List.range es.length) := by
    refine (List.perm_ext_iff_of_nodup hnd List.nodup_range).2 fun j => ?_
    rw [List.mem_range]
    exact ⟨hlt j, hall j⟩
  have h3 : ((List.range es.length).filterMap fun j => (es[j]?).map (·.1)) = es.map (·.1) := by
    clear h1 h2 hall hlt hnd
    induction es with
    | nil => rfl
    | cons e es ih =>
      rw [List.length_cons, List.range_succ_eq_map, List.filterMap_cons]
      simp only [List.getElem?_cons_zero, Option.map_some, List.filterMap_map, List.map_cons]
      congr 1
  rw [h1, ← h3]
  exact h2.filterMap _
theorem perm_strs {xs : List AV} {l : List ByteArray} (h : xs.Perm (strs l)) : ∃ m : List ByteArray, xs = strs m ∧ m.Perm l := by
  have hx : ∀ x ∈ xs, ∃ s, x = .str s := fun x hx => by
    obtain ⟨s, _, e⟩ := List.mem_map.1 (h.mem_iff.1 hx)
    exact ⟨s, e.symm⟩
  have : ∃ m : List ByteArray, xs = strs m := by
    clear h
    induction xs with
    | nil => exact ⟨[], rfl⟩
    | cons x xs ih =>
      obtain ⟨s, rfl⟩ := hx x (by simp)
      obtain ⟨m, rfl⟩ := ih fun x hx' => hx x (by simp [hx'])
      exact ⟨s :: m, rfl⟩
  obtain ⟨m, rfl⟩ := this
  refine ⟨m, rfl, ?_⟩
  have := h.filterMap fun a => match a with | .val (.string s) => some s | _ => none
  simp only [strs, List.filterMap_map] at this
  have e : ∀ l : List ByteArray, l.filterMap ((fun a => match a with | AV.val (.string s) => some s | _ => none) ∘ AV.str) = l := fun l => by
    rw [show ((fun a => match a with | AV.val (.string s) => some s | _ => none) ∘ AV.str) = some from rfl]; exact List.filterMap_some
  rwa [e, e] at this

theorem collect_c (es : List (AV × AV)) (hes : ∀ e ∈ es, ∃ s, e.1 = .str s) (hl : es.length ≤ lim) {K : ARes → HM → Prop} (hk : ∀ v H' m, m.Perm (keyStrs es) → OutG H H' v 9 1 (strs m) → K (.ret v) H') :
    CallF prog G 132 [.func (.func 134) [] [.ref [.imap es]]] H K := by
  refine CallF_body (fn := f132) func132 rfl (by kernel_rfl) (Nat.le_of_ble_eq_true (by kernel_rfl)) ?_
  first | refine VW_reg [] fun N E hN hE => ?_ | (refine VW_seq ?_; refine VW_reg [] fun N E hN hE => ?_) | (refine VW_seq ?_; refine VW_seq ?_; refine VW_reg [] fun N E hN hE => ?_) | (refine VW_seq ?_; refine VW_seq ?_; refine VW_seq ?_; refine VW_reg [] fun N E hN hE => ?_) | refine VW_regE [] fun N E hN hE => ?_ | (refine VW_seq ?_; refine VW_regE [] fun N E hN hE => ?_)
  simp (decide := true) only [VS, WS, TS, ES, ↓reduceIte, Nat.reduceAdd]
  refine hN _ ?_
  clear hN hE N E
  refine VW_reg [] fun N E hN hE => ?_
  simp (decide := true) only [VS, WS, TS, ES, ↓reduceIte, Nat.reduceAdd]
  refine wcall_of (by kernel_rfl) (append_c es hes hl fun v H' hs hD ho => ?_)
  obtain ⟨m, hm, hp⟩ := perm_strs (xs := hs.flatten) (l := keyStrs es) (by rw [keyStrs_map hes]; exact KDn_perm hD)
  rw [hm] at ho
  rw [kont_ret]
  simp (decide := true) only [VS, WS, TS, ES, ↓reduceIte, Nat.reduceAdd]
  refine hN _ ?_
  clear hN hE N E
  refine VW_ret ⟨fun d hd => (by cases hd), v, v, H', ?_, Drop.refl _, View.refl _, hk _ _ _ hp ho⟩
  rw [vresults_one 2 rfl]; simp (decide := true) only [upd_eq, putT_some, WS, ES, ↓reduceIte, Nat.reduceAdd]

/-- A set's names in order. -/
theorem sorted_c (hsn : ∀ H, PureF prog G 133 [.nil0] H .unit) (es : List (AV × AV)) (hes : ∀ e ∈ es, ∃ s, e.1 = .str s ∧ s.size ≤ lim) (hl : es.length ≤ lim) :
    PureF prog G 56 [.imap es] H (.list (strs (isort (keyStrs es)))) := by
  have hes' : ∀ e ∈ es, ∃ s, e.1 = .str s := fun e he => let ⟨s, h, _⟩ := hes e he; ⟨s, h⟩
  have hmem : ∀ x ∈ keyStrs es, x.size ≤ lim := fun x hx => by
    have : AV.str x ∈ strs (keyStrs es) := List.mem_map.2 ⟨x, hx, rfl⟩
    rw [keyStrs_map hes'] at this
    obtain ⟨e, he, h⟩ := List.mem_map.1 this
    obtain ⟨s, h2, h3⟩ := hes e he
    rw [h2] at h; cases h; exact h3
  have hlen : (keyStrs es).length = es.length := by
    have := congrArg List.length (keyStrs_map hes'); simpa [strs] using this
  have keys_c : PureF prog G 96 [.imap es] H (.func (.func 134) [] [.ref [.imap es]]) := by
    refine Pure_body (fn := f96) func96 rfl (by kernel_rfl) (by kernel_rfl) (Nat.le_of_ble_eq_true (by kernel_rfl)) fun K hk => ?_
    first | refine VW_reg [] fun N E hN hE => ?_ | (refine VW_seq ?_; refine VW_reg [] fun N E hN hE => ?_) | (refine VW_seq ?_; refine VW_seq ?_; refine VW_reg [] fun N E hN hE => ?_) | (refine VW_seq ?_; refine VW_seq ?_; refine VW_seq ?_; refine VW_reg [] fun N E hN hE => ?_) | refine VW_regE [] fun N E hN hE => ?_ | (refine VW_seq ?_; refine VW_regE [] fun N E hN hE => ?_)
    simp (decide := true) only [VS, WS, TS, ES, ↓reduceIte, Nat.reduceAdd]
    refine hN _ ?_
    clear hN hE N E
    first | refine VW_reg [] fun N E hN hE => ?_ | (refine VW_seq ?_; refine VW_reg [] fun N E hN hE => ?_) | (refine VW_seq ?_; refine VW_seq ?_; refine VW_reg [] fun N E hN hE => ?_) | (refine VW_seq ?_; refine VW_seq ?_; refine VW_seq ?_; refine VW_reg [] fun N E hN hE => ?_) | refine VW_regE [] fun N E hN hE => ?_ | (refine VW_seq ?_; refine VW_regE [] fun N E hN hE => ?_)
    simp (decide := true) only [VS, WS, TS, ES, ↓reduceIte, Nat.reduceAdd]
    refine hN _ ?_
    clear hN hE N E
    refine VW_ret (Fin_ret1 2 rfl ?_)
    simp (decide := true) only [upd_eq, putT_some, WS, ES, ↓reduceIte, Nat.reduceAdd]
    exact hk
  have sorted95 : PureF prog G 95 [.func (.func 134) [] [.ref [.imap es]]] H (.list (strs (isort (keyStrs es)))) := by
    refine Pure_body (fn := f95) func95 rfl (by kernel_rfl) (by kernel_rfl) (Nat.le_of_ble_eq_true (by kernel_rfl)) fun K hk => ?_
    first | refine VW_reg [] fun N E hN hE => ?_ | (refine VW_seq ?_; refine VW_reg [] fun N E hN hE => ?_) | (refine VW_seq ?_; refine VW_seq ?_; refine VW_reg [] fun N E hN hE => ?_) | (refine VW_seq ?_; refine VW_seq ?_; refine VW_seq ?_; refine VW_reg [] fun N E hN hE => ?_) | refine VW_regE [] fun N E hN hE => ?_ | (refine VW_seq ?_; refine VW_regE [] fun N E hN hE => ?_)
    simp (decide := true) only [VS, WS, TS, ES, ↓reduceIte, Nat.reduceAdd]
    refine hN _ ?_
    clear hN hE N E
    refine VW_reg [] fun N E hN hE => ?_
    simp (decide := true) only [VS, WS, TS, ES, ↓reduceIte, Nat.reduceAdd]
    refine wcall_of (by kernel_rfl) (collect_c es hes' hl fun v H' m hp ho => ?_)
    rw [kont_ret]
    simp (decide := true) only [VS, WS, TS, ES, ↓reduceIte, Nat.reduceAdd]
    refine hN _ ?_
    clear hN hE N E
    refine VW_reg [] fun N E hN hE => ?_
    simp (decide := true) only [VS, WS, TS, ES, ↓reduceIte, Nat.reduceAdd]
    rcases ho with ⟨q1, rfl, q3⟩ | ⟨b, cap, q1, rfl, q3⟩
    · refine wcall_pure (hsn _) ?_
      simp (decide := true) only [VS, WS, TS, ES, ↓reduceIte, Nat.reduceAdd]
      refine hN _ ?_
      clear hN hE N E
      first | refine VW_reg [] fun N E hN hE => ?_ | (refine VW_seq ?_; refine VW_reg [] fun N E hN hE => ?_) | (refine VW_seq ?_; refine VW_seq ?_; refine VW_reg [] fun N E hN hE => ?_) | (refine VW_seq ?_; refine VW_seq ?_; refine VW_seq ?_; refine VW_reg [] fun N E hN hE => ?_) | refine VW_regE [] fun N E hN hE => ?_ | (refine VW_seq ?_; refine VW_regE [] fun N E hN hE => ?_)
      simp (decide := true) only [VS, WS, TS, ES, ↓reduceIte, Nat.reduceAdd]
      refine hN _ ?_
      clear hN hE N E
      have hm : keyStrs es = [] := by
        have : m = [] := by simpa [strs] using q1
        rw [this] at hp; exact hp.symm.eq_nil
      refine VW_ret ⟨fun d hd => (by cases hd), .nil0, _, H, ?_, q3, View.nil0 q3, ?_⟩
      · rw [vresults_one 2 rfl]; simp (decide := true) only [upd_eq, putT_some, WS, ES, ↓reduceIte, Nat.reduceAdd]
      · rw [hm] at hk; exact hk
    · have hget := q3.get
      have hml : m.length ≤ lim := by rw [hp.length_eq, hlen]; exact hl
      refine wcall_of (by kernel_rfl) (sort_c m b _ cap hml (strs_len m) (fun x hx => hmem x (hp.mem_iff.1 hx)) hget ?_)
      rw [kont_ret]
      simp (decide := true) only [VS, WS, TS, ES, ↓reduceIte, Nat.reduceAdd]
      refine hN _ ?_
      clear hN hE N E
      first | refine VW_reg [] fun N E hN hE => ?_ | (refine VW_seq ?_; refine VW_reg [] fun N E hN hE => ?_) | (refine VW_seq ?_; refine VW_seq ?_; refine VW_reg [] fun N E hN hE => ?_) | (refine VW_seq ?_; refine VW_seq ?_; refine VW_seq ?_; refine VW_reg [] fun N E hN hE => ?_) | refine VW_regE [] fun N E hN hE => ?_ | (refine VW_seq ?_; refine VW_regE [] fun N E hN hE => ?_)
      simp (decide := true) only [VS, WS, TS, ES, ↓reduceIte, Nat.reduceAdd]
      refine hN _ ?_
      clear hN hE N E
      have ho : OutG H (H'.upd b (.row 9 1 cap (strs (sortB m)))) (.mlist b (strs m).length cap) 9 1 (strs (sortB m)) := by
        refine .inr ⟨b, cap, q1, by rw [strs_len, strs_len, sortB_len], fun k => ?_⟩
        by_cases hkb : k = b
        · subst hkb; right; rw [HM.upd_same, HM.upd_same]
        · rw [HM.upd_ne _ _ hkb, HM.upd_ne _ _ hkb]
          have := q3 k; rwa [HM.upd_ne _ _ hkb] at this
      refine VW_ret ⟨fun d hd => (by cases hd), .mlist b (strs m).length cap, _, H, ?_, ho.drop, ho.view (by rw [strs_len, sortB_len]; exact hml), ?_⟩
      · rw [vresults_one 2 rfl]; simp (decide := true) only [upd_eq, putT_some, WS, ES, ↓reduceIte, Nat.reduceAdd]
      · rw [sortB_isort hp]; exact hk
  refine Pure_body (fn := f56) func56 rfl (by kernel_rfl) (by kernel_rfl) (Nat.le_of_ble_eq_true (by kernel_rfl)) fun K hk => ?_
  first | refine VW_reg [] fun N E hN hE => ?_ | (refine VW_seq ?_; refine VW_reg [] fun N E hN hE => ?_) | (refine VW_seq ?_; refine VW_seq ?_; refine VW_reg [] fun N E hN hE => ?_) | (refine VW_seq ?_; refine VW_seq ?_; refine VW_seq ?_; refine VW_reg [] fun N E hN hE => ?_) | refine VW_regE [] fun N E hN hE => ?_ | (refine VW_seq ?_; refine VW_regE [] fun N E hN hE => ?_)
  simp (decide := true) only [VS, WS, TS, ES, ↓reduceIte, Nat.reduceAdd]
  refine hN _ ?_
  clear hN hE N E
  refine VW_reg [] fun N E hN hE => ?_
  simp (decide := true) only [VS, WS, TS, ES, ↓reduceIte, Nat.reduceAdd]
  refine wcall_pure keys_c ?_
  simp (decide := true) only [VS, WS, TS, ES, ↓reduceIte, Nat.reduceAdd]
  refine wcall_pure sorted95 ?_
  simp (decide := true) only [VS, WS, TS, ES, ↓reduceIte, Nat.reduceAdd]
  refine hN _ ?_
  clear hN hE N E
  refine VW_ret (Fin_ret1 2 rfl ?_)
  simp (decide := true) only [upd_eq, putT_some, WS, ES, ↓reduceIte, Nat.reduceAdd]
  exact hk
end
end Go.V
