import Derived.Test.YtanhkkillmbkhaaZbaA
namespace Go.AL
set_option linter.unusedVariables false
set_option linter.unusedSimpArgs false

section
variable {P : Program} {N : Nat} {T : Env} {σ : St} {K K' : Env → St → Prop} {Q : XA → Env → St → Prop} {B : List Nat}

abbrev Tr := (Env → St → Prop) → Env → St → Prop

def good (B : List Nat) (σ : St) : Prop := σ.fin ∧ ∀ b ∈ B, σ.box b ≠ none
def keepB (B : List Nat) (σ σ' : St) : Prop := ∀ b ∈ B, σ'.box b = σ.box b
def keepA (σ σ' : St) : Prop := ∀ b, σ.box b ≠ none → σ'.box b = σ.box b

theorem keepA.toB {σ σ' : St} (h : keepA σ σ') (hg : good B σ) : keepB B σ σ' := fun b hb => h b (hg.2 b hb)
theorem keepB.good {σ σ' : St} (h : keepB B σ σ') (hg : good B σ) (hf : σ'.fin) : good B σ' := ⟨hf, fun b hb => by rw [h b hb]; exact hg.2 b hb⟩

theorem fin_set {σ : St} (h : σ.fin) (b : Nat) (cs : List D) : (σ.set b cs).fin := by
  obtain ⟨n, hn⟩ := h
  refine ⟨n + b + 1, fun x hx hin => hn x (by omega) ?_⟩
  rcases hin with hin | hin
  · simp only [St.set, show x ≠ b by omega, if_false] at hin; exact .inl hin
  · exact .inr hin
theorem fin_setBuf {σ : St} (h : σ.fin) (b s n : Nat) : (σ.setBuf b s n).fin := by
  obtain ⟨m, hn⟩ := h
  refine ⟨m + b + 1, fun x hx hin => hn x (by omega) ?_⟩
  rcases hin with hin | hin
  · exact .inl hin
  · simp only [St.setBuf, show x ≠ b by omega, if_false] at hin; exact .inr hin
theorem fin_dropBuf {σ : St} (h : σ.fin) (b : Nat) : (σ.dropBuf b).fin := by
  obtain ⟨m, hn⟩ := h
  exact ⟨m, fun x hx hin => hn x hx (dropBuf_has hin)⟩
theorem fin_join {s fr : St} (h : s.fin) (h' : fr.fin) : (St.join s fr).fin := by
  obtain ⟨m, hm⟩ := h
  obtain ⟨n, hn⟩ := h'
  refine ⟨m + n, fun x hx hin => ?_⟩
  rcases (join_has x).1 hin with h1 | h1
  · exact hm x (by omega) h1
  · exact hn x (by omega) h1
theorem fin_right {s fr : St} (h : (St.join s fr).fin) : fr.fin := by
  obtain ⟨m, hm⟩ := h
  exact ⟨m, fun x hx hin => hm x hx ((join_has x).2 (.inr hin))⟩
theorem fin_fresh {σ : St} (h : σ.fin) (x : Nat) : ∃ b, ¬ σ.has b ∧ b ≠ x := by
  obtain ⟨n, hn⟩ := h
  exact ⟨n + x + 1, hn _ (by omega), by omega⟩

/-- It looks at no other slot than those of its list. -/
def FrameT (f : Tr) (dst : Option Nat) (looks : List Nat) : Prop :=
  ∀ (K : Env → St → Prop) (T : Env) (σ : St) (t : Nat) (d : D), t ∉ looks → dst ≠ some t → (f K (upd T t d) σ ↔ f (fun T' σ' => K (upd T' t d) σ') T σ)
def MonoT (keep : St → St → Prop) (B : List Nat) (f : Tr) (dst : Option Nat) : Prop :=
  ∀ (K K' : Env → St → Prop) (T : Env) (σ : St), good B σ → f K T σ → (∀ v σ', keep σ σ' → good B σ' → K (aput T dst v) σ' → K' (aput T dst v) σ') → f K' T σ
def ExT (keep : St → St → Prop) (kA : Prop) (B : List Nat) (f : Tr) (dst : Option Nat) : Prop :=
  ∀ (K : Env → St → Prop) (T : Env) (σ : St), good B σ → f K T σ → ∀ x, ∃ v σ', keep σ σ' ∧ (kA → σ'.box x = σ.box x) ∧ good B σ' ∧ K (aput T dst v) σ'
/-- Its answer hangs on its slots alone. -/
def DetT (N : Nat) (f : Tr) (dst : Option Nat) (looks : List Nat) (det : Env → Option (Prop × D)) : Prop :=
  (∀ K T σ, f K T σ ↔ match det T with | some (side, d) => side ∧ putK N dst d K T σ | none => False) ∧ ∀ T t d, t ∉ looks → det (upd T t d) = det T
/-- Its answer hangs on its slots and on one box. -/
def LoadT (N : Nat) (f : Tr) (dst : Option Nat) (looks : List Nat) (which : Env → Option Nat) (det : Env → St → Option D) : Prop :=
  (∀ K T σ, f K T σ ↔ match det T σ with | some d => putK N dst d K T σ | none => False) ∧ (∀ T t d σ, t ∉ looks → det (upd T t d) σ = det T σ ∧ which (upd T t d) = which T) ∧
  ∀ T σ σ', (∀ b, which T = some b → σ'.box b = σ.box b) → det T σ' = det T σ

theorem aput_comm {T : Env} {x y : Option Nat} (h : ∀ t, x = some t → y ≠ some t) (d e : D) : aput (aput T x d) y e = aput (aput T y e) x d := by
  cases x with
  | none => rfl
  | some t =>
    cases y with
    | none => rfl
    | some u => exact upd_comm T (fun he => h t rfl (by rw [he])) d e

def notIn (dst : Option Nat) (looks : List Nat) : Prop := ∀ t, dst = some t → t ∉ looks

theorem frame_aput {f : Tr} {dst : Option Nat} {looks : List Nat} (h : FrameT f dst looks) {dx : Option Nat} {d : D} (h1 : notIn dx looks) (h2 : ∀ t, dx = some t → dst ≠ some t) :
    f K (aput T dx d) σ ↔ f (fun T' σ' => K (aput T' dx d) σ') T σ := by
  cases dx with
  | none => exact Iff.rfl
  | some t => exact h K T σ t d (h1 t rfl) (h2 t rfl)

theorem putK_aput {dst : Option Nat} {d : D} : putK N dst d K T σ ↔ (∀ t, dst = some t → t < N) ∧ K (aput T dst d) σ := by
  cases dst <;> simp [putK, aput]

theorem det_aput {f : Tr} {dst : Option Nat} {looks : List Nat} {det : Env → Option (Prop × D)} (h : DetT N f dst looks det) {dx : Option Nat} {d : D} (h1 : notIn dx looks) : det (aput T dx d) = det T := by
  cases dx with
  | none => rfl
  | some t => exact h.2 T t d (h1 t rfl)

theorem load_aput {f : Tr} {dst : Option Nat} {looks : List Nat} {which : Env → Option Nat} {det : Env → St → Option D} (h : LoadT N f dst looks which det) {dx : Option Nat} {d : D} (h1 : notIn dx looks) :
    det (aput T dx d) σ = det T σ ∧ which (aput T dx d) = which T := by
  cases dx with
  | none => exact ⟨rfl, rfl⟩
  | some t => exact h.2.1 T t d σ (h1 t rfl)

structure ApartT (dx dy : Option Nat) (lx ly : List Nat) : Prop where
  xy : notIn dx ly
  yx : notIn dy lx
  ne : ∀ t, dx = some t → dy ≠ some t

theorem ApartT.ne' {dx dy : Option Nat} {lx ly : List Nat} (h : ApartT dx dy lx ly) : ∀ t, dy = some t → dx ≠ some t := fun t hy hx => h.ne t hx hy

/-- The one whose answer hangs on slots alone may come later. -/
theorem swap_det_any {f g : Tr} {dx dy : Option Nat} {lx ly : List Nat} {det : Env → Option (Prop × D)} (hap : ApartT dx dy lx ly) (hx : DetT N f dx lx det) (hfy : FrameT g dy ly) {keep : St → St → Prop} (hmy : MonoT keep B g dy)
    (hg : good B σ) (h : f (fun T' σ' => good B σ' → g K T' σ') T σ) : g (fun T' σ' => good B σ' → f K T' σ') T σ := by
  rw [hx.1] at h
  split at h
  · rename_i side d hd
    obtain ⟨hs, h⟩ := h
    obtain ⟨hn, h⟩ := putK_aput.1 h
    have h1 := (frame_aput hfy hap.xy hap.ne).1 (h hg)
    refine hmy _ _ _ _ hg h1 fun v σ' _ hg' hk _ => ?_
    rw [hx.1, det_aput hx hap.yx, hd]
    exact ⟨hs, putK_aput.2 ⟨hn, hk⟩⟩
  · exact h.elim

/-- The one whose answer hangs on slots alone may come first. -/
theorem swap_any_det {f g : Tr} {dx dy : Option Nat} {lx ly : List Nat} {det : Env → Option (Prop × D)} (hap : ApartT dx dy lx ly) (hfx : FrameT f dx lx) {keep : St → St → Prop} {kA : Prop} (hmx : MonoT keep B f dx) (hex : ExT keep kA B f dx)
    (hy : DetT N g dy ly det) (hg : good B σ) (h : f (fun T' σ' => good B σ' → g K T' σ') T σ) : g (fun T' σ' => good B σ' → f K T' σ') T σ := by
  obtain ⟨v, σ', _, _, hg', h1⟩ := hex _ _ _ hg h 0
  have h2 := h1 hg'
  rw [hy.1, det_aput hy hap.xy] at h2
  rw [hy.1]
  cases hd : det T with
  | none => rw [hd] at h2; exact h2.elim
  | some p =>
    obtain ⟨side, d⟩ := p
    rw [hd] at h2
    obtain ⟨hs, h2⟩ := h2
    have hn := (putK_aput.1 h2).1
    refine ⟨hs, putK_aput.2 ⟨hn, fun _ => ?_⟩⟩
    refine (frame_aput hfx hap.yx hap.ne').2 (hmx _ _ _ _ hg h fun u σ₁ _ hg₁ hk => ?_)
    have h3 := hk hg₁
    rw [hy.1, det_aput hy hap.xy, hd] at h3
    exact (putK_aput.1 h3.2).2

theorem swap_load_any {f g : Tr} {dx dy : Option Nat} {lx ly : List Nat} {which : Env → Option Nat} {det : Env → St → Option D} (hap : ApartT dx dy lx ly) (hx : LoadT N f dx lx which det) (hfy : FrameT g dy ly) {keep : St → St → Prop} (hmy : MonoT keep B g dy)
    (hkeep : ∀ σ', good B σ → f (fun _ _ => True) T σ → keep σ σ' → ∀ b, which T = some b → σ'.box b = σ.box b)
    (hg : good B σ) (h : f (fun T' σ' => good B σ' → g K T' σ') T σ) : g (fun T' σ' => good B σ' → f K T' σ') T σ := by
  have h' := h
  rw [hx.1] at h
  split at h
  · rename_i d hd
    obtain ⟨hn, h⟩ := putK_aput.1 h
    have htrue : f (fun _ _ => True) T σ := by rw [hx.1, hd]; exact putK_aput.2 ⟨hn, trivial⟩
    have h1 := (frame_aput hfy hap.xy hap.ne).1 (h hg)
    refine hmy _ _ _ _ hg h1 fun v σ' hk hg' hK _ => ?_
    rw [hx.1, (load_aput hx hap.yx).1, hx.2.2 T σ σ' (hkeep σ' hg htrue hk), hd]
    exact putK_aput.2 ⟨hn, hK⟩
  · exact h.elim

theorem swap_any_load {f g : Tr} {dx dy : Option Nat} {lx ly : List Nat} {which : Env → Option Nat} {det : Env → St → Option D} (hap : ApartT dx dy lx ly) (hfx : FrameT f dx lx) {keep : St → St → Prop} {kA : Prop} (hmx : MonoT keep B f dx) (hex : ExT keep kA B f dx)
    (hy : LoadT N g dy ly which det) (hout : ∀ σ' d, keep σ σ' → (kA → σ'.box ((which T).getD 0) = σ.box ((which T).getD 0)) → det T σ' = some d → ∀ b, which T = some b → σ'.box b = σ.box b)
    (hkeep : ∀ σ' d, keep σ σ' → det T σ = some d → ∀ b, which T = some b → σ'.box b = σ.box b)
    (hg : good B σ) (h : f (fun T' σ' => good B σ' → g K T' σ') T σ) : g (fun T' σ' => good B σ' → f K T' σ') T σ := by
  obtain ⟨v, σ', hk, hbx, hg', h1⟩ := hex _ _ _ hg h ((which T).getD 0)
  have h2 := h1 hg'
  rw [hy.1, (load_aput hy hap.xy).1] at h2
  have heq : ∀ b, which T = some b → σ'.box b = σ.box b := by
    cases hd : det T σ' with
    | none => rw [hd] at h2; exact h2.elim
    | some d => exact hout σ' d hk hbx hd
  rw [hy.2.2 T σ σ' heq] at h2
  rw [hy.1]
  cases hd : det T σ with
  | none => rw [hd] at h2; exact h2.elim
  | some d =>
    rw [hd] at h2
    have hn := (putK_aput.1 h2).1
    refine putK_aput.2 ⟨hn, fun _ => ?_⟩
    refine (frame_aput hfx hap.yx hap.ne').2 (hmx _ _ _ _ hg h fun u σ₁ hk₁ hg₁ hK => ?_)
    have h3 := hK hg₁
    rw [hy.1, (load_aput hy hap.xy).1, hy.2.2 T σ σ₁ (hkeep σ₁ d hk₁ hd), hd] at h3
    exact (putK_aput.1 h3).2
end
end Go.AL
