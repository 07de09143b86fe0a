/- Plain laws: tubes. -/
import Derived.Test.YtfeknndjngaieaaYb
set_option linter.unusedVariables false
set_option linter.unusedSimpArgs false
namespace Go.Lap

theorem fin_and {body : Nat → Unit → Res Unit Bool} {c : Nat → Bool} (hb : ∀ i, body i () = if c i then .ret false else .next ()) (rest : Unit → Bool) :
    ∀ n i, Res.fin rest (forN body n i ()) = (Res.fin (fun _ => true) (forN body n i ()) && rest ())
  | 0, i => by simp [forN, Res.fin]
  | n + 1, i => by
    simp only [forN, hb i]
    cases c i with
    | true => rfl
    | false => exact fin_and hb rest n (i + 1)

theorem forN_app {σ ρ : Type} {g : Nat → σ} {body : Nat → List σ → Res (List σ) ρ} (hb : ∀ i s, body i s = .next (s ++ [g i])) : ∀ c i s, forN body c i s = .next (s ++ (List.range' i c).map g)
  | 0, i, s => by simp [forN]
  | c + 1, i, s => by
    simp only [forN, hb]
    rw [forN_app hb c (i + 1)]
    simp [List.range'_succ]

theorem itr_app {α ρ : Type} {n : Nat} {g : Nat → α} {body : List α × Int → Res (List α × Int) ρ} {rest : List α × Int → ρ}
    (hb : ∀ l (k : Nat), k < n → body (l, (k : Int)) = .next (l ++ [g k], (k : Int) + 1)) (he : ∀ l, body (l, (n : Int)) = .brk (l, (n : Int))) :
    ∀ (c k : Nat) (l : List α) (fuel : Nat), k + c = n → c < fuel → Res.fin rest (itr body fuel (l, (k : Int))) = rest (l ++ (List.range' k c).map g, (n : Int))
  | 0, k, l, fuel, h, hf => by
    obtain ⟨f, rfl⟩ : ∃ f, fuel = f + 1 := ⟨fuel - 1, by omega⟩
    obtain rfl : k = n := by omega
    simp [itr, he, Res.fin]
  | c + 1, k, l, fuel, h, hf => by
    obtain ⟨f, rfl⟩ : ∃ f, fuel = f + 1 := ⟨fuel - 1, by omega⟩
    simp only [itr, hb l k (by omega)]
    have := itr_app (rest := rest) hb he c (k + 1) (l ++ [g k]) f (by omega) (by omega)
    rw [show ((k : Int) + 1) = ((k + 1 : Nat) : Int) by omega, this]
    simp [List.range'_succ]

theorem specspans_snd (p : FlyPath) : (spec_FlySpans p).2 = true ↔ POK p ∧ Feas p := by
  unfold spec_FlySpans
  cases h : spec_FlyPathOk p with
  | false =>
    have : ¬ POK p := fun hp => by rw [(pathok_spec p).2 hp] at h; cases h
    simp [this]
  | true =>
    have hp := (pathok_spec p).1 h
    simp only [Bool.not_true, Bool.false_eq_true, if_false]
    rw [(spans_spec hp.s.win).snd]
    exact ⟨fun h => ⟨hp, h⟩, fun h => h.2⟩

theorem flytube_eq (p : FlyPath) : impl_FlyTube p = spec_FlyTube p := by
  have hs : (impl_FlySpans p).2 = (spec_FlySpans p).2 := by rw [Bool.eq_iff_iff, spans_pok, specspans_snd]
  unfold impl_FlyTube spec_FlyTube
  have hu : spec_FlyTube_u1 p (([] : List FlyBox), 0) = p.Steps.length + 1 := by unfold spec_FlyTube_u1; simp only; omega
  rw [hu, hs]
  cases h : (spec_FlySpans p).2 with
  | false =>
    simp only [Bool.not_false, if_true]
    simp [itr, spec_FlyTube_b1, h, Res.fin, spec_FlyTube_r1]
  | true =>
    obtain ⟨hp, hf⟩ := (specspans_snd p).1 h
    have e : spec_FlySpans p = spec_l4Spans p := by
      unfold spec_FlySpans; rw [(pathok_spec p).2 hp]; rfl
    have h' : (spec_l4Spans p).2 = true := by rw [← e]; exact h
    simp only [Bool.not_true, Bool.false_eq_true, if_false]
    let g : Nat → FlyBox := fun i => ⟨(p.Steps.getD i default).X, (p.Steps.getD i default).Y, (p.Steps.getD i default).Low, (p.Steps.getD i default).High, ((impl_FlySpans p).1.getD i default).Low, wr (((impl_FlySpans p).1.getD (i + 1) default).High - 1)⟩
    have h1 := forN_app (g := g) (body := impl_FlyTube_b1 p) (fun i s => rfl) p.Steps.length 0 []
    rw [show p.Steps.length - 0 = p.Steps.length from rfl, h1]
    have h2 := itr_app (n := p.Steps.length) (g := g) (body := spec_FlyTube_b1 p) (rest := spec_FlyTube_r1 p) (fun l k hk => by
        have e1 : ((k : Int)).toNat = k := by omega
        have e2 : ((k : Int) + 1).toNat = k + 1 := by omega
        have e3 : ((k : Int) < (p.Steps.length : Int)) := by omega
        simp only [spec_FlyTube_b1, spec_FlyTube_v1, h', e1, e2, e3, e, g, spans_eq hp.s, decide_true, Bool.and_self, if_true]) (fun l => by
        simp [spec_FlyTube_b1]) p.Steps.length 0 [] (p.Steps.length + 1 + 1) (by omega) (by omega)
    exact h2.symm

theorem box_eq (b : ProbeBox) : impl_ProbeBoxOk b = spec_ProbeBoxOk b := by
  unfold impl_ProbeBoxOk spec_ProbeBoxOk impl_ProbeBoxOk_v1 spec_ProbeBoxOk_v1 impl_in spec_l11In
  rw [Bool.eq_iff_iff]
  simp only [Bool.and_eq_true, decide_eq_true_eq]
  omega
theorem tubeok_eq (t : ProbeTube) : impl_ProbeTubeOk t = spec_ProbeTubeOk t := by
  have hN : ∀ i, impl_ProbeTubeOk_b1 t i () = spec_l12NameOk_b1 t.Name i () := fun i => rfl
  have hB : impl_ProbeTubeOk_b2 t () = spec_ProbeTubeOk_b1 t := by
    funext i u
    simp only [impl_ProbeTubeOk_b2, spec_ProbeTubeOk_b1, box_eq]
  have hN' : impl_ProbeTubeOk_b1 t = spec_l12NameOk_b1 t.Name := by funext i u; rfl
  unfold impl_ProbeTubeOk spec_ProbeTubeOk spec_l12NameOk
  rw [fin_and (body := impl_ProbeTubeOk_b1 t) (c := impl_ProbeTubeOk_v1 t) (fun i => rfl) (impl_ProbeTubeOk_r1 t)]
  have e1 : impl_ProbeTubeOk_r1 t () = Res.fin (fun _ => true) (forN (spec_ProbeTubeOk_b1 t) (t.Boxes.length - 0) 0 ()) := by
    unfold impl_ProbeTubeOk_r1
    rw [hB]
    rfl
  have e2 : Res.fin (spec_ProbeTubeOk_r1 t) (forN (spec_ProbeTubeOk_b1 t) (t.Boxes.length - 0) 0 ()) = Res.fin (fun _ => true) (forN (spec_ProbeTubeOk_b1 t) (t.Boxes.length - 0) 0 ()) := rfl
  have e3 : Res.fin (spec_l12NameOk_r1 t.Name) (forN (spec_l12NameOk_b1 t.Name) (t.Name.size - 0) 0 ()) = Res.fin (fun _ => true) (forN (spec_l12NameOk_b1 t.Name) (t.Name.size - 0) 0 ()) := rfl
  have e4 : impl_in (t.Name.size : Int) 1 8 = spec_l11In (t.Name.size : Int) 1 8 := rfl
  rw [e1, e2, e3, e4, hN']
  cases spec_l11In (t.Name.size : Int) 1 8 <;> cases decide ((40 : Int) < (t.Boxes.length : Int)) <;> cases Res.fin (fun _ => true) (forN (spec_l12NameOk_b1 t.Name) (t.Name.size - 0) 0 ()) <;> rfl
theorem cut_eq (t : ProbeTube) (now : Int) : impl_ProbeCut t now = spec_ProbeCut t now := by
  have hb : impl_ProbeCut_b2 t now = spec_ProbeCut_b2 t now := by
    funext i s
    simp only [impl_ProbeCut_b2, spec_ProbeCut_b2, impl_ProbeCut_v1, spec_ProbeCut_v1]
    generalize t.Boxes.getD i default = b
    by_cases h1 : b.Out < now
    · have h2 : ¬ now ≤ b.Out := by omega
      simp [h1, h2]
    · have h2 : now ≤ b.Out := by omega
      by_cases h3 : b.In < now
      · have e : max b.In now = now := by omega
        simp [h1, h2, h3, e]
      · have e : max b.In now = b.In := by omega
        simp [h1, h2, h3, e]
  unfold impl_ProbeCut spec_ProbeCut
  rw [tubeok_eq, hb]
  rfl
theorem tube_eq (n : ByteArray) (p : FlyPath) (now : Int) : impl_LinkTube n p now = spec_LinkTube n p now := by
  unfold impl_LinkTube spec_LinkTube spec_l23Tube
  let g : Nat → ProbeBox := fun i => ⟨((spec_FlyTube p).getD i default).X, ((spec_FlyTube p).getD i default).Y, ((spec_FlyTube p).getD i default).Low, ((spec_FlyTube p).getD i default).High, ((spec_FlyTube p).getD i default).In, ((spec_FlyTube p).getD i default).Out⟩
  rw [flytube_eq, forN_app (g := g) (body := impl_LinkTube_b2 n p now) (fun i s => by simp only [impl_LinkTube_b2, impl_LinkTube_v1, flytube_eq]; rfl),
    forN_app (g := g) (body := spec_l23Tube_b2 n p) (fun i s => rfl)]
  simp only [Res.fin, impl_LinkTube_r2, spec_l23Tube_r2, cut_eq]

end Go.Lap
