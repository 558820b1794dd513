/- SongNormal: THE LAW ANSWERS TRUE FOR EVERY INPUT WHOSE READING IS OF BULK AT MOST 1048576, AND EACH ARGUMENT READS BEHIND THE CALL AS BEFORE. The statement's own condition (the second form), no other. -/
import Derived.Test.YtffennknofmjoaaGreatP6
import Derived.Test.YtffennknofmjoaaGreatRows
import Derived.WalkKit
import Derived.ProofKit
import Derived.OpenShut
import Derived.ChangeOld
import Derived.Below
import Derived.Carry
import Derived.SizedLaws
import Derived.JoinedCond
set_option linter.unusedSimpArgs false
set_option linter.unusedVariables false
set_option linter.unusedVariables false
namespace Go.Proofs.YtffennknofmjoaaGreat.Vw
open Go.ChangeShapes Go.WideShapes Go.ChangeAt Go.RowKit Go.bF Go.aM Go.aM.X
theorem own:ownKnob Tryz.prog.godebug=none:=by kernel_rfl
theorem laidOut:laidOutB Tryz.prog=true:=by kernel_rfl
theorem mixed:Tryz.prog.follows .mixedOrders=true:=by kernel_rfl
theorem cg{i:FuncId}{A:b2}{T:jF}(h:cc i A)(t:rR Tryz.prog T):rR Tryz.prog ((i,A.erase)::T):=by
 obtain⟨_,_,k⟩:=h
 exact Xa k t
theorem table:rR Tryz.prog (iT.erase T):=by
 exact cg ZQ (cg ZR (cg ZS (cg ZT (cg ZU (cg ZV (cg ZW (cg ZX (cg ZY (cg ZZ (cg Z0 (cg Z1 (cg Z2 (cg Z4 (cg Z5 (cg Z6 (cg Z7 (cg Z8 (cg Z9 (cg Z_ (cg Z' (cg aaa (cg aab (cg aac (cg aad (cg aae (cg aaf (cg aag (cg aai (cg aaj (cg aak (cg aal (cg aam (cg aan (cg aao (cg aap (cg aaq (cg aar (cg aas (cg aat (cg aau (cg aav (cg aaw (cg aax (cg aay (cg aaz (cg aaA (cg aaB (cg aaC (cg aaD (cg aaE (cg aaF (cg aaG (cg aaH (cg aaI (cg aaJ (cg aaK (cg aaL (cg aaM (cg aaN (cg aaO (cg abJ (cg abK (cg abL (cg abM (cg abN (cg abO (cg abP (cg abQ (cg abR (cg abS (cg abT (cg abU (cg abV (cg abX (cg abZ (cg ab0 (cg ab1 (cg ab2 (cg ab3 (cg ab4 (cg ab5 (cg ab6 (cg ab7 (cg ab8 (cg ab9 (cg ab_ (cg ab' (cg aca (cg acb (cg acd (cg ace (cg acf (cg acg (cg ach (cg aci (cg acj (cg ack (cg acm (cg acn (cg aco (cg acp (cg acq (cg acr (cg acs (cg acu (cg acv (cg acw (cg acx (cg acy (cg acz (cg acA (cg acB (cg acC (cg acD (cg acE (cg acF (cg acG (cg acH (cg acI (cg acJ (cg acK (cg acL (cg acM (cg acN (cg acP (cg acQ (cg acR (cg acS (cg acT (cg acU (cg acV (cg acW (cg acX (cg acY (cg acZ (cg ac0 (cg ac1 (cg ac2 (cg ac3 (cg ac4 (cg ac5 (cg ac6 (cg ac7 (cg ac8 (cg ac9 (cg ac_ (cg ac' (cg ada (W')))))))))))))))))))))))))))))))))))))))))))))))))))))))))))))))))))))))))))))))))))))))))))))))))))))))))))))))))))))))))))))))))))))))))))))))))))))
mutual
theorem tl{H:Type}:∀d:DataW H,jH d<=Rows.uptoBulk d
 |.lit l=>by cases l<;>simp [jH,Rows.uptoBulk]
 |.nil=>by simp [jH,Rows.uptoBulk]
 |.slice e s=>by have:=nL e;simp only[jH,Rows.uptoBulk];omega
 |.agg p=>by have:=nL p;simp only[jH,Rows.uptoBulk];omega
 |.ptr _=>by simp [jH]
 |.iface _ _=>by simp [jH]
 |.map _=>by simp [jH]
 |.held _=>by simp [jH]
theorem nL{H:Type}:∀l:List (DataW H),mo l<=Rows.uptoBulkAll l
 |[]=>by simp [mo]
 |d::r=>by have:=tl d;have:=nL r;simp only[mo,Rows.uptoBulkAll];omega
end
set_option maxRecDepth 100000 in
theorem lifted(os:Os)(started:os.Started)(H:Type)(enc:TypeId×Value->H)(F:Stop.Interp):
 ReturnsInHanded {} Tryz.checked os 4 .any (OpenSpec.pre6 enc Tryz.prog Tryz.f4 (Rows.OpenSpec.upto Rows.songNormalSpec) Rows.songNormalUptoRow.domain false) ((OpenSpec.at (Rows.OpenSpec.upto Rows.songNormalSpec) F).post enc Tryz.prog Tryz.f4 false true false false):=by
 refine returnsInHanded_of_cond (C:=Tryz.checked) (s:=(Rows.OpenSpec.upto Rows.songNormalSpec)) (k:=Rows.uptoSmall) rfl own started (by kernel_rfl) Tryz.func4
  (OpenSpec.witness (enc:=enc) (C:=Tryz.checked) (s:=(Rows.OpenSpec.upto Rows.songNormalSpec)) (k:=Rows.uptoSmall) rfl false ⟨#[],#[.agg #[.string .empty,.int .i64 0,.int .i64 0,.slice none 0 0,.int .i64 0,.int .i64 0,.int .i64 0,.int .i64 0,.bool false,.slice none 0 0,.slice none 0 0,.slice none 0 0,.slice none 0 0]],[]⟩ 8 (by kernel_rfl) (by kernel_rfl) (by kernel_rfl) (x:=([.agg [.lit (.string []),.lit (.int .i64 0),.lit (.int .i64 0),.nil,.lit (.int .i64 0),.lit (.int .i64 0),.lit (.int .i64 0),.lit (.int .i64 0),.lit (.bool false),.nil,.nil,.nil,.nil]],[],[])) (by kernel_rfl) (by kernel_rfl) (by kernel_rfl)) ?_
 intro W base args dS gs before u c O w _
 have g:∀(j:Nat) t v,Tryz.f4.params[j]?=some t->args[j]?=some v->Value.okWide Tryz.prog W .any base t v:=u
 have z:=c
 obtain⟨p,q,A,B,rfl,P,Q⟩:=c
 have i:DataW.TrodAll enc Tryz.prog W 0 (λ_=>true) true Tryz.f4.params.toList args.toList dS p:=A
 rw[Tryz.params4]at i g
 obtain⟨v0,R,d0,S,D,T,U,rfl,rfl,av,b⟩:=trodAll_cons i
 obtain⟨E,rfl,rfl⟩:=trodAll_nil b
 obtain rfl:args=#[v0]:=by
  subst E
  cases args;simp_all
 obtain⟨rfl,rfl⟩:=trodVars_none B
 have G:=g 0 27 v0 rfl rfl
 have I:∀x∈D,x.block<W.heap.size:=by obtain⟨m,hm⟩:=av;exact DataW.trod_lt m _ _ _ hm
 obtain⟨X,Y,rfl,b,l,J,wy⟩:=XD (m:=12) (s:=hU.e_) Tryz.underlying27 (by kernel_rfl) G av
 have n:=I2 (μ:=B2) _ l b
 obtain⟨fa,rfl,K⟩:=hU.of l
 rw[hU.nn fa]at n
 have L:=bs.agg n
 have ad:Rows.uptoBulkAll ([d0]++[])<=1048576:=of_decide_eq_true w
 simp only[List.append_nil,Rows.uptoBulkAll]at ad
 have N:hY fa.b5<=1048576:=by have:=tl d0;omega
 refine(Zl mixed table (ZM rfl rfl rfl (by kernel_rfl) (by kernel_rfl)) agM (akh K N []) (.cons L (.nil)) (.cons J (.nil)) rfl).mono λe Z ⟨he,o⟩=>?_
 subst he
 exact⟨_,rfl,_,_,_,[],_,[],z,trodAll_mk1 (shut_bool Tryz.underlying4 _),(trodAll_cons_mk (Below.trod laidOut (by kernel_rfl) (of_decide_eq_true (by kernel_rfl)) av o I) trodAll_mk0),rfl,o.frame _,λh=>by cases h⟩
theorem aki:Rows.songNormalUptoRow.holds Tryz.pinned (Rows.OpenSpec.upto Rows.songNormalSpec):=
 OpenClaim.holds_of_cond 4 Tryz.f4 rfl rfl rfl rfl rfl rfl rfl ⟨rfl,rfl,rfl,rfl,rfl⟩ rfl rfl rfl rfl rfl (by kernel_rfl) Tryz.func4 (by kernel_rfl)
  (of_decide_eq_true (by kernel_rfl)) (by unfold Func.isWrapper;first|(rw[if_pos (by decide +kernel)];kernel_rfl)|(rw[if_neg (by decide +kernel)];exact⟨rfl,rfl⟩))
  (λos started H enc _ F=>lifted os started H enc F)
theorem proved:Rows.SongNormalUptoSaid:=aki
end Go.Proofs.YtffennknofmjoaaGreat.Vw
namespace Go.Proofs.YtffennknofmjoaaGreat
theorem songNormal_holds:Rows.SongNormalUptoSaid:=Vw.proved
end Go.Proofs.YtffennknofmjoaaGreat
