/- Joined: P5, P6, A1, B1, A2, A3, B2, B3, B4, B5, B6, B7, B8, B9, B10, B11, B15, B16, B17, B18, M1, M2, I1, I2, I3, I4, I5, I6, I8, I10, I11, I14, I15, I16, I18, I19, I21, I22, N1, N2, I29, I30, I24, I25, RP0, I32, I34, I35, I36. -/
import Derived.Test.YteogfjpaljbkoaaGreatK4
import Derived.Test.YteogfjpaljbkoaaGreatK3
import Derived.Test.YteogfjpaljbkoaaGreatProg
import Derived.Shelf.SlSortCmp.NoneTotal
import Derived.Lib.Small
import Derived.Lib.Walk
import Derived.StillTailTactics
import Derived.Lib.Join
import Derived.Lib.ItoaNum
set_option linter.unusedVariables false
set_option linter.unusedSimpArgs false
set_option maxRecDepth 100000
set_option maxHeartbeats 16000000
namespace Go.Proofs.YteogfjpaljbkoaaGreat
open Go.RowKit
section
open Go.Proofs.Tryz (prog)
attribute [local irreducible] CallV RoundV
def setPref (r:Rule) (a:Attrs):Attrs:=if r.hasPref then { a with hasPref:=true,pref:=r.pref } else a
def setR (r:Rule) (a:Attrs):Attrs:=if r.hasMed then { setPref r a with hasMed:=true,med:=r.med } else setPref r a
def addE (r:Rule) (a:Attrs):Int:=if r.hasAdd then tagE a r.add else 0
def addA (r:Rule) (a:Attrs):Attrs:=if r.hasAdd then tagA a r.add else a
def doneA (r:Rule) (own:UInt32) (a:Attrs):Attrs:=prepA (addA r (setR r a)) own r.times.toNat
def doneE (r:Rule) (own:UInt32) (a:Attrs):Int:=prepE (addA r (setR r a)) own r.times.toNat
def passR (r:Rule) (own:UInt32) (a:Attrs):Bool:=!r.deny && decide (addE r (setR r a)=0)&& decide (doneE r own a=0)
def byE (p:Policy) (own:UInt32) (to:Prefix) (a:Attrs):Int:=if checkP p=2∨prefOk to=false∨rightA a=false∨own=0 then 2 else checkP p
def byOk (p:Policy) (own:UInt32) (to:Prefix) (a:Attrs):Bool:=match p.rules.find? (fun r=>fits r to a)with
 | none=>p.els
 | some r=>passR r own a
def byA (p:Policy) (own:UInt32) (to:Prefix) (a:Attrs):Attrs:=match p.rules.find? (fun r=>fits r to a)with
 | none=>if p.els then a else noA
 | some r=>if passR r own a then doneA r own a else noA
def byV (fr:Bool) (p:Policy) (own:UInt32) (to:Prefix) (a:Attrs):V:=
 if byE p own to a ≠ 0 then .tup [encA fr noA,.bool false,.int .i64 (byE p own to a)]else .tup [encA fr (byA p own to a),.bool (byOk p own to a),.int .i64 0]
theorem which_cases (p:Policy) (to:Prefix) (a:Attrs):(whichP p to a=-1∧p.rules.find? (fun r=>fits r to a)=none)∨∃(i:Nat) (hi:i < p.rules.length),whichP p to a=i∧p.rules.find? (fun r=>fits r to a)=some p.rules[i]∧fits p.rules[i] to a=true:=by
 cases h:p.rules.any (fun r=>fits r to a)with
 | false=>
  refine .inl ⟨by rw[whichP,h];rfl,?_⟩
  rw[List.find?_eq_none]
  rw[List.any_eq_false]at h
  exact fun r hr=>h r hr
 | true=>
  have hlt:p.rules.findIdx (fun r=>fits r to a) < p.rules.length:=List.findIdx_lt_length.2 (by rw[List.any_eq_true]at h;exact h)
  have hf:=List.findIdx_getElem (w:=hlt)
  refine .inr ⟨p.rules.findIdx (fun r=>fits r to a),hlt,by rw[whichP,h];rfl,?_,hf⟩
  have:=List.find?_eq_some_iff_getElem (xs:=p.rules) (p:=fun r=>fits r to a) (b:=p.rules[p.rules.findIdx (fun r=>fits r to a)])
  rw[this]
  refine⟨hf,_,hlt,rfl,fun j hj=>?_⟩
  have:=List.not_of_lt_findIdx hj
  simpa using this
def curA (r:Rule) (own:UInt32) (a:Attrs):Nat→Attrs
 | 0=>a
 | 1=>a
 | 2=>setR r a
 | 3=>addA r (setR r a)
 | _=>doneA r own a
def okA (r:Rule) (own:UInt32) (a:Attrs):Nat→Prop
 | 0=>True
 | 1=>r.deny=false
 | 2=>r.deny=false
 | 3=>r.deny=false∧addE r (setR r a)=0
 | _=>r.deny=false∧addE r (setR r a)=0∧doneE r own a=0
def byRows:List (List V):=[
 [.fn (.func 121) [] [.ptr 5 0]],
 [.fn (.func 122) [] [.ptr 5 0,.ptr 3 0]],
 [.fn (.func 123) [] [.ptr 5 0,.ptr 3 0]],
 [.fn (.func 125) [] [.ptr 3 0,.ptr 1 0,.ptr 5 0]]]
theorem byRows_le {h:Heap} {nx nx':Nat} {Z:List Nat} (hn:6 < nx'):LeR h nx id nx' Z byRows byRows:=
 ⟨⟨.fnL trivial ⟨.ptr rfl (by omega),trivial⟩,trivial⟩,⟨.fnL trivial ⟨.ptr rfl (by omega),.ptr rfl (by omega),trivial⟩,trivial⟩,⟨.fnL trivial ⟨.ptr rfl (by omega),.ptr rfl (by omega),trivial⟩,trivial⟩,⟨.fnL trivial ⟨.ptr rfl (by omega),.ptr rfl (by omega),.ptr rfl (by omega),trivial⟩,trivial⟩,trivial⟩
theorem by_ok (fr fr':Bool) (p:Policy) (own:UInt32) (to:Prefix) (a:Attrs):PCon prog 77 [encPo fr p,cW own,encP to,encA fr' a] (byV true p own to a):=by
 have bad:∀{s:St} {v:V} {e:Int},byE p own to a=e→e ≠ 0→LeV s.h s.nx id 0 [] v (encA true noA)→∃v1 h' nx',Ends 0 s (.tup [v,.bool false,.int .i64 e]) v1 h' nx'∧(v1=byV true p own to a∧h'=[]∧nx'=0):=fun he hne hv=>by
  rw[byV,he,if_pos hne]
  exact Ends.pure [] (.tupL ⟨hv,.free .bool,.free .int,trivial⟩) (by simp)
 refine callV_of (fn:=Go.Proofs.Tryz.f77) (body:=_) tab_ok mixed rfl rfl (by decide) (by simp[Go.Proofs.Tryz.f77]) ?_
 conv=>whnf
 refine callV_pure (check23_ok fr p) ⟨.free (encPo_free _ _),trivial⟩ ?_
 conv=>whnf
 cases h0:(checkP p == 2)with
 | true=>
  conv=>whnf
  exact bad (by rw[byE,if_pos (.inl (by simpa using h0))]) (by decide) .noA
 | false=>
 conv=>whnf
 refine callV_pure (uRight_ok to) ⟨.free (encP_free _),trivial⟩ ?_
 cases h1:prefOk to with
 | false=>
  conv=>whnf
  exact bad (by rw[byE,if_pos (.inr (.inl h1))]) (by decide) .noA
 | true=>
 conv=>whnf
 refine callV_pure (check_ok fr' a) ⟨.free (encA_free _ _),trivial⟩ ?_
 cases h2:rightA a with
 | false=>
  rw[checkA_no h2]
  conv=>whnf
  exact bad (by rw[byE,if_pos (.inr (.inr (.inl h2)))]) (by decide) .noA
 | true=>
 rw[checkA_yes h2]
 conv=>whnf
 cases h3:((own.toNat:Int) == 0)with
 | true=>
  conv=>whnf
  exact bad (by rw[byE,if_pos (.inr (.inr (.inr (by rw[u32_eq]at h3;simpa using h3))))]) (by decide) .noA
 | false=>
 have hb:byE p own to a=checkP p:=by
  rw[byE,if_neg]
  rw[u32_eq]at h3
  simp only[beq_eq_false_iff_ne,ne_eq]at h0 h3
  simp[h0,h1,h2,h3]
 conv=>whnf
 cases h4:(checkP p != 0)with
 | true=>
  conv=>whnf
  exact bad hb (by simpa using h4) .noA
 | false=>
 have h4:checkP p=0:=by simpa using h4
 rw[h4]at hb
 have fin:∀{s:St} {v:V} {b:Bool},byOk p own to a=b→LeV s.h s.nx id 0 [] v (encA true (byA p own to a))→∃v1 h' nx',Ends 0 s (.tup [v,.bool b,.int .i64 0]) v1 h' nx'∧(v1=byV true p own to a∧h'=[]∧nx'=0):=fun he hv=>by
  rw[byV,hb,if_neg (by simp)]
  exact Ends.pure [] (.tupL ⟨hv,.bool_of he.symm,.free .int,trivial⟩) (by simp)
 obtain⟨q1,q2,q3,_⟩:=few_of_right h2
 conv=>whnf
 refine callV_pure (copy_pure fr' a (by omega) (fun p hp=>by have:=q2 p hp;omega) (by omega)) ⟨.free (encA_free _ _),trivial⟩ ?_
 conv=>whnf
 refine callV_pure (which_ok fr true p to a) ⟨.free (encPo_free _ _),.free (encP_free _),.free (encA_free _ _),trivial⟩ ?_
 rcases which_cases p to a with⟨hw,hfi⟩|⟨i,hi,hw,hfi,hft⟩
 ·rw[hw]
  conv=>whnf
  cases he:p.els with
  | false=>
   conv=>whnf
   refine⟨by kernel_rfl,?_⟩
   conv=>whnf
   exact fin (by simp[byOk,hfi,he]) (by rw[byA,hfi];simp only[he];exact .noA)
  | true=>
   conv=>whnf
   refine⟨by kernel_rfl,?_⟩
   conv=>whnf
   exact fin (by simp[byOk,hfi,he]) (by rw[byA,hfi];simp only[he];exact .free (encA_free true a))
 ·rw[hw]
  conv=>whnf
  refine ixK (idxRu hi) ?_
  have hown:(own.toNat:Int) ≠ 0:=by simpa using h3
  generalize hrr:p.rules[i]=r at *
  have yes:okA r own a 4→byOk p own to a=true∧byA p own to a=doneA r own a:=fun⟨h1,h2,h3⟩=>by
   have:passR r own a=true:=by simp[passR,h1,h2,h3]
   simp[byOk,byA,hfi,this]
  have nay:passR r own a=false→byOk p own to a=false∧byA p own to a=noA:=fun h=>by simp[byOk,byA,hfi,h]
  obtain⟨cov,least,most,hasTag,tag,sys,deny,hasPref,hasMed,hasAdd,pref,med,add,times⟩:=r
  conv=>whnf
  intro _
  conv=>whnf
  refine vcg_loop tab_ok mixed (fun k:{k:Nat // k≤4∧okA (⟨cov,least,most,hasTag,tag,sys,deny,hasPref,hasMed,hasAdd,pref,med,add,times⟩:Rule) own a k}=>⟨[(7,.ptr 3 0),(8,.ptr 4 0),(67,.osl 6 1 0 4),(68,.int .i64 4),(69,cI k.1)],[(1,some (.var true 22 [cW own])),(3,some (.var true 35 (cellsA true (curA (⟨cov,least,most,hasTag,tag,sys,deny,hasPref,hasMed,hasAdd,pref,med,add,times⟩:Rule) own a k.1)))),(4,some (.var true 35 zeroA)),(5,some (.var true 132 (cellsRu (⟨cov,least,most,hasTag,tag,sys,deny,hasPref,hasMed,hasAdd,pref,med,add,times⟩:Rule)))),(6,some (.arr true true 40 1 byRows))],7⟩) (fun k=>4 - k.1) ⟨0,by omega,trivial⟩ (Wk.i (by repeat' (first|exact LHa|exact⟨id,id,rfl,rfl,LeR.out (byRows_le (by omega))⟩|exact .A|exact LeL.fr rfl|exact LeV.nineA|exact LeV.noA|exact LHb|refine Or.inl ⟨by simp,_,rfl,?_⟩|exact Or.inr ⟨by simp,_,_,_,_,rfl⟩|refine⟨rfl,rfl,rfl,rfl,rfl,rfl,?_⟩|refine⟨?_,?_⟩)) (by omega)) (fun k=>?_)
  obtain⟨k,hk,hok⟩:=k
  have hk':k=0∨k=1∨k=2∨k=3∨k=4:=by omega
  rcases hk' with rfl|rfl|rfl|rfl|rfl
  ·conv=>whnf
   refine⟨rfl,⟨by simp,by simp⟩,?_⟩
   conv=>whnf
   refine⟨rfl,_,rfl,?_⟩
   conv=>whnf
   refine callV_of (fn:=Go.Proofs.Tryz.f121) (body:=_) tab_ok mixed rfl rfl (by decide) (by simp[Go.Proofs.Tryz.f121]) ?_
   conv=>whnf
   refine⟨_,_,_,Ends.here,?_⟩
   cases deny with
   | true=>
    conv=>whnf
    obtain⟨n1,n2⟩:=nay (by simp[passR])
    exact fin n1 (by rw[n2];exact .noA)
   | false=>
    conv=>whnf
    exact⟨⟨1,by omega,rfl⟩,(Wk.i (by repeat' (first|exact LHa|exact⟨id,id,rfl,rfl,LeR.out (byRows_le (by omega))⟩|exact .A|exact LeL.fr rfl|exact LeV.nineA|exact LeV.noA|exact LHb|refine Or.inl ⟨by simp,_,rfl,?_⟩|exact Or.inr ⟨by simp,_,_,_,_,rfl⟩|refine⟨rfl,rfl,rfl,rfl,rfl,rfl,?_⟩|refine⟨?_,?_⟩)) (by omega)),by simp only;omega⟩
  ·conv=>whnf
   refine⟨rfl,⟨by simp,by simp⟩,?_⟩
   conv=>whnf
   refine⟨rfl,_,rfl,?_⟩
   conv=>whnf
   refine callV_of (fn:=Go.Proofs.Tryz.f122) (body:=_) tab_ok mixed rfl rfl (by decide) (by simp[Go.Proofs.Tryz.f122]) ?_
   conv=>whnf
   cases hasPref
   case' true=>
    conv=>whnf
    refine⟨by kernel_rfl,?_⟩
   all_goals
    conv=>whnf
    cases hasMed
    case' true=>
     conv=>whnf
     refine⟨by kernel_rfl,?_⟩
    all_goals
     conv=>whnf
     refine⟨_,_,_,Ends.here,?_⟩
     conv=>whnf
     exact⟨⟨2,by omega,hok⟩,(Wk.i (by repeat' (first|exact LHa|exact⟨id,id,rfl,rfl,LeR.out (byRows_le (by omega))⟩|exact LeL.of_eq rfl (cellsA_free true _)|exact .A|exact LeL.fr rfl|exact LeV.nineA|exact LeV.noA|exact LHb|refine Or.inl ⟨by simp,_,rfl,?_⟩|exact Or.inr ⟨by simp,_,_,_,_,rfl⟩|refine⟨rfl,rfl,rfl,rfl,rfl,rfl,?_⟩|refine⟨?_,?_⟩)) (by omega)),by simp only;omega⟩
  ·conv=>whnf
   refine⟨rfl,⟨by simp,by simp⟩,?_⟩
   conv=>whnf
   refine⟨rfl,_,rfl,?_⟩
   conv=>whnf
   refine callV_of (fn:=Go.Proofs.Tryz.f123) (body:=_) tab_ok mixed rfl rfl (by decide) (by simp[Go.Proofs.Tryz.f123]) ?_
   conv=>whnf
   cases hasAdd with
   | false=>
    conv=>whnf
    refine⟨_,_,_,Ends.here,?_⟩
    conv=>whnf
    exact⟨⟨3,by omega,hok,rfl⟩,(Wk.i (by repeat' (first|exact LHa|exact⟨id,id,rfl,rfl,LeR.out (byRows_le (by omega))⟩|exact LeL.of_eq rfl (cellsA_free true _)|exact .A|exact LeL.fr rfl|exact LeV.nineA|exact LeV.noA|exact LHb|refine Or.inl ⟨by simp,_,rfl,?_⟩|exact Or.inr ⟨by simp,_,_,_,_,rfl⟩|refine⟨rfl,rfl,rfl,rfl,rfl,rfl,?_⟩|refine⟨?_,?_⟩)) (by omega)),by simp only;omega⟩
   | true=>
    conv=>whnf
    refine callV_pure (tag_ok true (setR (⟨cov,least,most,hasTag,tag,sys,deny,hasPref,hasMed,true,pref,med,add,times⟩:Rule) a) add) ⟨.free (encA_free _ _),.free .int,trivial⟩ ?_
    conv=>whnf
    refine⟨_,_,_,Ends.here,?_⟩
    conv=>whnf
    cases hte:(tagE (setR (⟨cov,least,most,hasTag,tag,sys,deny,hasPref,hasMed,true,pref,med,add,times⟩:Rule) a) add == 0)with
    | true=>
     conv=>whnf
     exact⟨⟨3,by omega,hok,eq_of_beq hte⟩,(Wk.i (by repeat' (first|exact LHa|exact⟨id,id,rfl,rfl,LeR.out (byRows_le (by omega))⟩|exact LeL.of_eq rfl (cellsA_free true _)|exact .A|exact LeL.fr rfl|exact LeV.nineA|exact LeV.noA|exact LHb|refine Or.inl ⟨by simp,_,rfl,?_⟩|exact Or.inr ⟨by simp,_,_,_,_,rfl⟩|refine⟨rfl,rfl,rfl,rfl,rfl,rfl,?_⟩|refine⟨?_,?_⟩)) (by omega)),by simp only;omega⟩
    | false=>
     have hte:tagE (setR (⟨cov,least,most,hasTag,tag,sys,deny,hasPref,hasMed,true,pref,med,add,times⟩:Rule) a) add ≠ 0:=by simpa using hte
     conv=>whnf
     obtain⟨n1,n2⟩:=nay (by simp only[passR,addE,if_true,hte,decide_false,Bool.and_false,Bool.false_and])
     exact fin n1 (by rw[n2];exact .noA)
  ·conv=>whnf
   refine⟨rfl,⟨by simp,by simp⟩,?_⟩
   conv=>whnf
   refine⟨rfl,_,rfl,?_⟩
   conv=>whnf
   refine callV_of (fn:=Go.Proofs.Tryz.f125) (body:=_) tab_ok mixed rfl rfl (by decide) (by simp[Go.Proofs.Tryz.f125]) ?_
   conv=>whnf
   refine callV_pure (prepend_ok true (addA (⟨cov,least,most,hasTag,tag,sys,deny,hasPref,hasMed,hasAdd,pref,med,add,times⟩:Rule) (setR (⟨cov,least,most,hasTag,tag,sys,deny,hasPref,hasMed,hasAdd,pref,med,add,times⟩:Rule) a)) own (times.toNat:Int)) ⟨.free (encA_free _ _),.free .int,.int_of (wrap64 (n:=(times.toNat:Int)) (by omega) (by have:=times.toNat_lt;omega)),trivial⟩ ?_
   conv=>whnf
   refine⟨_,_,_,Ends.here,?_⟩
   conv=>whnf
   cases hte:(prepE (addA (⟨cov,least,most,hasTag,tag,sys,deny,hasPref,hasMed,hasAdd,pref,med,add,times⟩:Rule) (setR (⟨cov,least,most,hasTag,tag,sys,deny,hasPref,hasMed,hasAdd,pref,med,add,times⟩:Rule) a)) own (times.toNat:Int) == 0)with
   | true=>
    conv=>whnf
    exact⟨⟨4,by omega,hok.1,hok.2,eq_of_beq hte⟩,(Wk.i (by repeat' (first|exact LHa|exact⟨id,id,rfl,rfl,LeR.out (byRows_le (by omega))⟩|exact LeL.of_eq rfl (cellsA_free true _)|exact .A|exact LeL.fr rfl|exact LeV.nineA|exact LeV.noA|exact LHb|refine Or.inl ⟨by simp,_,rfl,?_⟩|exact Or.inr ⟨by simp,_,_,_,_,rfl⟩|refine⟨rfl,rfl,rfl,rfl,rfl,rfl,?_⟩|refine⟨?_,?_⟩)) (by omega)),by simp only;omega⟩
   | false=>
    have hte:doneE (⟨cov,least,most,hasTag,tag,sys,deny,hasPref,hasMed,hasAdd,pref,med,add,times⟩:Rule) own a ≠ 0:=ne_of_beq_false hte
    conv=>whnf
    obtain⟨n1,n2⟩:=nay (by simp only[passR,hte,decide_false,Bool.and_false])
    exact fin n1 (by rw[n2];exact .noA)
  ·conv=>whnf
   obtain⟨y1,y2⟩:=yes hok
   exact fin y1 (by rw[y2];exact .free (encA_free true _))
end
section
open Go.Proofs.Tryz (prog)
attribute [local irreducible] CallV RoundV
theorem rby_ok (fr fr':Bool) (p:Policy) (own:UInt32) (to:Prefix) (a:Attrs):PCon prog 83 [encPo fr p,cW own,encP to,encA fr' a] (byV fr' p own to a):=by
 have bad:∀{s:St} {v:V} {e:Int},byE p own to a=e→e ≠ 0→LeV s.h s.nx id 0 [] v (encA fr' noA)→∃v1 h' nx',Ends 0 s (.tup [v,.bool false,.int .i64 e]) v1 h' nx'∧(v1=byV fr' p own to a∧h'=[]∧nx'=0):=fun he hne hv=>by
  rw[byV,he,if_pos hne]
  exact Ends.pure [] (.tupL ⟨hv,.free .bool,.free .int,trivial⟩) (by simp)
 refine callV_of (fn:=Go.Proofs.Tryz.f83) (body:=_) tab_ok mixed rfl rfl (by decide) (by simp[Go.Proofs.Tryz.f83]) ?_
 conv=>whnf
 refine callV_pure (rcheck23_ok fr p) ⟨.free (encPo_free _ _),trivial⟩ ?_
 conv=>whnf
 cases h0:(checkP p == 2)with
 | true=>
  conv=>whnf
  exact bad (by rw[byE,if_pos (.inl (by simpa using h0))]) (by decide) .noA
 | false=>
 conv=>whnf
 refine callV_pure (rRight_ok to) ⟨.free (encP_free _),trivial⟩ ?_
 cases h1:prefOk to with
 | false=>
  conv=>whnf
  exact bad (by rw[byE,if_pos (.inr (.inl h1))]) (by decide) .noA
 | true=>
 conv=>whnf
 refine callV_pure (right_ok fr' a) ⟨.free (encA_free _ _),trivial⟩ ?_
 cases h2:rightA a with
 | false=>
  conv=>whnf
  exact bad (by rw[byE,if_pos (.inr (.inr (.inl h2)))]) (by decide) .noA
 | true=>
 conv=>whnf
 cases h3:((own.toNat:Int) == 0)with
 | true=>
  conv=>whnf
  exact bad (by rw[byE,if_pos (.inr (.inr (.inr (by rw[u32_eq]at h3;simpa using h3))))]) (by decide) .noA
 | false=>
 have hb:byE p own to a=checkP p:=by
  rw[byE,if_neg]
  rw[u32_eq]at h3
  simp only[beq_eq_false_iff_ne,ne_eq]at h0 h3
  simp[h0,h1,h2,h3]
 conv=>whnf
 cases h4:(checkP p != 0)with
 | true=>
  conv=>whnf
  exact bad hb (by simpa using h4) .noA
 | false=>
 have h4:checkP p=0:=by simpa using h4
 rw[h4]at hb
 have fin:∀{s:St} {v:V} {b:Bool},byOk p own to a=b→LeV s.h s.nx id 0 [] v (encA fr' (byA p own to a))→∃v1 h' nx',Ends 0 s (.tup [v,.bool b,.int .i64 0]) v1 h' nx'∧(v1=byV fr' p own to a∧h'=[]∧nx'=0):=fun he hv=>by
  rw[byV,hb,if_neg (by simp)]
  exact Ends.pure [] (.tupL ⟨hv,.bool_of he.symm,.free .int,trivial⟩) (by simp)
 conv=>whnf
 refine callV_pure (rwhich_ok fr fr' p to a) ⟨.free (encPo_free _ _),.free (encP_free _),.free (encA_free _ _),trivial⟩ ?_
 rcases which_cases p to a with⟨hw,hfi⟩|⟨i,hi,hw,hfi,hft⟩
 ·rw[hw]
  conv=>whnf
  cases he:p.els with
  | false=>
   conv=>whnf
   exact fin (by simp[byOk,hfi,he]) (by rw[byA,hfi];simp only[he];exact .noA)
  | true=>
   conv=>whnf
   exact fin (by simp[byOk,hfi,he]) (by rw[byA,hfi];simp only[he];exact .free (encA_free fr' a))
 ·rw[hw]
  conv=>whnf
  refine ixK (idxRu hi) ?_
  generalize hrr:p.rules[i]=r at *
  have yes:okA r own a 4→byOk p own to a=true∧byA p own to a=doneA r own a:=fun⟨h1,h2,h3⟩=>by
   have:passR r own a=true:=by simp[passR,h1,h2,h3]
   simp[byOk,byA,hfi,this]
  have nay:passR r own a=false→byOk p own to a=false∧byA p own to a=noA:=fun h=>by simp[byOk,byA,hfi,h]
  obtain⟨cov,least,most,hasTag,tag,sys,deny,hasPref,hasMed,hasAdd,pref,med,add,times⟩:=r
  conv=>whnf
  cases deny with
  | true=>
   conv=>whnf
   obtain⟨n1,n2⟩:=nay (by simp[passR])
   exact fin n1 (by rw[n2];exact .noA)
  | false=>
  conv=>whnf
  cases hasPref with
  | true=>
   conv=>whnf
   refine⟨by kernel_rfl,?_⟩
   conv=>whnf
   cases hasMed with
   | true=>
    conv=>whnf
    refine⟨by kernel_rfl,?_⟩
    conv=>whnf
    cases hasAdd with
    | false=>
     conv=>whnf
     refine callV_pure (ref_prepend_ok fr' (addA ⟨cov,least,most,hasTag,tag,sys,false,true,true,false,pref,med,add,times⟩ (setR ⟨cov,least,most,hasTag,tag,sys,false,true,true,false,pref,med,add,times⟩ a)) own (times.toNat:Int)) ⟨.eq_of rfl (encA_free _ _),.free .int,.int_of (wrap64 (n:=(times.toNat:Int)) (by omega) (by have:=times.toNat_lt;omega)),trivial⟩ ?_
     conv=>whnf
     cases hpe:(prepE (addA ⟨cov,least,most,hasTag,tag,sys,false,true,true,false,pref,med,add,times⟩ (setR ⟨cov,least,most,hasTag,tag,sys,false,true,true,false,pref,med,add,times⟩ a)) own (times.toNat:Int) != 0)with
     | true=>
      have hne:doneE ⟨cov,least,most,hasTag,tag,sys,false,true,true,false,pref,med,add,times⟩ own a ≠ 0:=bne_iff_ne.1 hpe
      conv=>whnf
      obtain⟨n1,n2⟩:=nay (by simp only[passR,hne,decide_false,Bool.and_false])
      exact fin n1 (by rw[n2];exact .noA)
     | false=>
      have heq:doneE ⟨cov,least,most,hasTag,tag,sys,false,true,true,false,pref,med,add,times⟩ own a=0:=by have:=hpe;rw[bne_eq_false_iff_eq]at this;exact this
      conv=>whnf
      obtain⟨y1,y2⟩:=yes ⟨rfl,rfl,heq⟩
      exact fin y1 (by rw[y2];exact .free (encA_free fr' _))
    | true=>
     conv=>whnf
     refine callV_pure (ref_tag_ok fr' (setR ⟨cov,least,most,hasTag,tag,sys,false,true,true,true,pref,med,add,times⟩ a) add) ⟨.eq_of rfl (encA_free _ _),.free .int,trivial⟩ ?_
     conv=>whnf
     cases hte:(tagE (setR ⟨cov,least,most,hasTag,tag,sys,false,true,true,true,pref,med,add,times⟩ a) add == 0)with
     | false=>
      have hne:addE ⟨cov,least,most,hasTag,tag,sys,false,true,true,true,pref,med,add,times⟩ (setR ⟨cov,least,most,hasTag,tag,sys,false,true,true,true,pref,med,add,times⟩ a) ≠ 0:=ne_of_beq_false hte
      have hne':(tagE (setR ⟨cov,least,most,hasTag,tag,sys,false,true,true,true,pref,med,add,times⟩ a) add != 0)=true:=by rw[bne,hte];rfl
      conv=>whnf
      rw[hne']
      conv=>whnf
      obtain⟨n1,n2⟩:=nay (by simp only[passR,hne,decide_false,Bool.and_false,Bool.false_and])
      exact fin n1 (by rw[n2];exact .noA)
     | true=>
      conv=>whnf
      refine callV_pure (ref_prepend_ok fr' (addA ⟨cov,least,most,hasTag,tag,sys,false,true,true,true,pref,med,add,times⟩ (setR ⟨cov,least,most,hasTag,tag,sys,false,true,true,true,pref,med,add,times⟩ a)) own (times.toNat:Int)) ⟨.eq_of rfl (encA_free _ _),.free .int,.int_of (wrap64 (n:=(times.toNat:Int)) (by omega) (by have:=times.toNat_lt;omega)),trivial⟩ ?_
      conv=>whnf
      cases hpe:(prepE (addA ⟨cov,least,most,hasTag,tag,sys,false,true,true,true,pref,med,add,times⟩ (setR ⟨cov,least,most,hasTag,tag,sys,false,true,true,true,pref,med,add,times⟩ a)) own (times.toNat:Int) != 0)with
      | true=>
       have hne:doneE ⟨cov,least,most,hasTag,tag,sys,false,true,true,true,pref,med,add,times⟩ own a ≠ 0:=bne_iff_ne.1 hpe
       conv=>whnf
       obtain⟨n1,n2⟩:=nay (by simp only[passR,hne,decide_false,Bool.and_false])
       exact fin n1 (by rw[n2];exact .noA)
      | false=>
       have heq:doneE ⟨cov,least,most,hasTag,tag,sys,false,true,true,true,pref,med,add,times⟩ own a=0:=by have:=hpe;rw[bne_eq_false_iff_eq]at this;exact this
       conv=>whnf
       obtain⟨y1,y2⟩:=yes ⟨rfl,(eq_of_beq hte),heq⟩
       exact fin y1 (by rw[y2];exact .free (encA_free fr' _))
   | false=>
    conv=>whnf
    cases hasAdd with
    | false=>
     conv=>whnf
     refine callV_pure (ref_prepend_ok fr' (addA ⟨cov,least,most,hasTag,tag,sys,false,true,false,false,pref,med,add,times⟩ (setR ⟨cov,least,most,hasTag,tag,sys,false,true,false,false,pref,med,add,times⟩ a)) own (times.toNat:Int)) ⟨.eq_of rfl (encA_free _ _),.free .int,.int_of (wrap64 (n:=(times.toNat:Int)) (by omega) (by have:=times.toNat_lt;omega)),trivial⟩ ?_
     conv=>whnf
     cases hpe:(prepE (addA ⟨cov,least,most,hasTag,tag,sys,false,true,false,false,pref,med,add,times⟩ (setR ⟨cov,least,most,hasTag,tag,sys,false,true,false,false,pref,med,add,times⟩ a)) own (times.toNat:Int) != 0)with
     | true=>
      have hne:doneE ⟨cov,least,most,hasTag,tag,sys,false,true,false,false,pref,med,add,times⟩ own a ≠ 0:=bne_iff_ne.1 hpe
      conv=>whnf
      obtain⟨n1,n2⟩:=nay (by simp only[passR,hne,decide_false,Bool.and_false])
      exact fin n1 (by rw[n2];exact .noA)
     | false=>
      have heq:doneE ⟨cov,least,most,hasTag,tag,sys,false,true,false,false,pref,med,add,times⟩ own a=0:=by have:=hpe;rw[bne_eq_false_iff_eq]at this;exact this
      conv=>whnf
      obtain⟨y1,y2⟩:=yes ⟨rfl,rfl,heq⟩
      exact fin y1 (by rw[y2];exact .free (encA_free fr' _))
    | true=>
     conv=>whnf
     refine callV_pure (ref_tag_ok fr' (setR ⟨cov,least,most,hasTag,tag,sys,false,true,false,true,pref,med,add,times⟩ a) add) ⟨.eq_of rfl (encA_free _ _),.free .int,trivial⟩ ?_
     conv=>whnf
     cases hte:(tagE (setR ⟨cov,least,most,hasTag,tag,sys,false,true,false,true,pref,med,add,times⟩ a) add == 0)with
     | false=>
      have hne:addE ⟨cov,least,most,hasTag,tag,sys,false,true,false,true,pref,med,add,times⟩ (setR ⟨cov,least,most,hasTag,tag,sys,false,true,false,true,pref,med,add,times⟩ a) ≠ 0:=ne_of_beq_false hte
      have hne':(tagE (setR ⟨cov,least,most,hasTag,tag,sys,false,true,false,true,pref,med,add,times⟩ a) add != 0)=true:=by rw[bne,hte];rfl
      conv=>whnf
      rw[hne']
      conv=>whnf
      obtain⟨n1,n2⟩:=nay (by simp only[passR,hne,decide_false,Bool.and_false,Bool.false_and])
      exact fin n1 (by rw[n2];exact .noA)
     | true=>
      conv=>whnf
      refine callV_pure (ref_prepend_ok fr' (addA ⟨cov,least,most,hasTag,tag,sys,false,true,false,true,pref,med,add,times⟩ (setR ⟨cov,least,most,hasTag,tag,sys,false,true,false,true,pref,med,add,times⟩ a)) own (times.toNat:Int)) ⟨.eq_of rfl (encA_free _ _),.free .int,.int_of (wrap64 (n:=(times.toNat:Int)) (by omega) (by have:=times.toNat_lt;omega)),trivial⟩ ?_
      conv=>whnf
      cases hpe:(prepE (addA ⟨cov,least,most,hasTag,tag,sys,false,true,false,true,pref,med,add,times⟩ (setR ⟨cov,least,most,hasTag,tag,sys,false,true,false,true,pref,med,add,times⟩ a)) own (times.toNat:Int) != 0)with
      | true=>
       have hne:doneE ⟨cov,least,most,hasTag,tag,sys,false,true,false,true,pref,med,add,times⟩ own a ≠ 0:=bne_iff_ne.1 hpe
       conv=>whnf
       obtain⟨n1,n2⟩:=nay (by simp only[passR,hne,decide_false,Bool.and_false])
       exact fin n1 (by rw[n2];exact .noA)
      | false=>
       have heq:doneE ⟨cov,least,most,hasTag,tag,sys,false,true,false,true,pref,med,add,times⟩ own a=0:=by have:=hpe;rw[bne_eq_false_iff_eq]at this;exact this
       conv=>whnf
       obtain⟨y1,y2⟩:=yes ⟨rfl,(eq_of_beq hte),heq⟩
       exact fin y1 (by rw[y2];exact .free (encA_free fr' _))
  | false=>
   conv=>whnf
   cases hasMed with
   | true=>
    conv=>whnf
    refine⟨by kernel_rfl,?_⟩
    conv=>whnf
    cases hasAdd with
    | false=>
     conv=>whnf
     refine callV_pure (ref_prepend_ok fr' (addA ⟨cov,least,most,hasTag,tag,sys,false,false,true,false,pref,med,add,times⟩ (setR ⟨cov,least,most,hasTag,tag,sys,false,false,true,false,pref,med,add,times⟩ a)) own (times.toNat:Int)) ⟨.eq_of rfl (encA_free _ _),.free .int,.int_of (wrap64 (n:=(times.toNat:Int)) (by omega) (by have:=times.toNat_lt;omega)),trivial⟩ ?_
     conv=>whnf
     cases hpe:(prepE (addA ⟨cov,least,most,hasTag,tag,sys,false,false,true,false,pref,med,add,times⟩ (setR ⟨cov,least,most,hasTag,tag,sys,false,false,true,false,pref,med,add,times⟩ a)) own (times.toNat:Int) != 0)with
     | true=>
      have hne:doneE ⟨cov,least,most,hasTag,tag,sys,false,false,true,false,pref,med,add,times⟩ own a ≠ 0:=bne_iff_ne.1 hpe
      conv=>whnf
      obtain⟨n1,n2⟩:=nay (by simp only[passR,hne,decide_false,Bool.and_false])
      exact fin n1 (by rw[n2];exact .noA)
     | false=>
      have heq:doneE ⟨cov,least,most,hasTag,tag,sys,false,false,true,false,pref,med,add,times⟩ own a=0:=by have:=hpe;rw[bne_eq_false_iff_eq]at this;exact this
      conv=>whnf
      obtain⟨y1,y2⟩:=yes ⟨rfl,rfl,heq⟩
      exact fin y1 (by rw[y2];exact .free (encA_free fr' _))
    | true=>
     conv=>whnf
     refine callV_pure (ref_tag_ok fr' (setR ⟨cov,least,most,hasTag,tag,sys,false,false,true,true,pref,med,add,times⟩ a) add) ⟨.eq_of rfl (encA_free _ _),.free .int,trivial⟩ ?_
     conv=>whnf
     cases hte:(tagE (setR ⟨cov,least,most,hasTag,tag,sys,false,false,true,true,pref,med,add,times⟩ a) add == 0)with
     | false=>
      have hne:addE ⟨cov,least,most,hasTag,tag,sys,false,false,true,true,pref,med,add,times⟩ (setR ⟨cov,least,most,hasTag,tag,sys,false,false,true,true,pref,med,add,times⟩ a) ≠ 0:=ne_of_beq_false hte
      have hne':(tagE (setR ⟨cov,least,most,hasTag,tag,sys,false,false,true,true,pref,med,add,times⟩ a) add != 0)=true:=by rw[bne,hte];rfl
      conv=>whnf
      rw[hne']
      conv=>whnf
      obtain⟨n1,n2⟩:=nay (by simp only[passR,hne,decide_false,Bool.and_false,Bool.false_and])
      exact fin n1 (by rw[n2];exact .noA)
     | true=>
      conv=>whnf
      refine callV_pure (ref_prepend_ok fr' (addA ⟨cov,least,most,hasTag,tag,sys,false,false,true,true,pref,med,add,times⟩ (setR ⟨cov,least,most,hasTag,tag,sys,false,false,true,true,pref,med,add,times⟩ a)) own (times.toNat:Int)) ⟨.eq_of rfl (encA_free _ _),.free .int,.int_of (wrap64 (n:=(times.toNat:Int)) (by omega) (by have:=times.toNat_lt;omega)),trivial⟩ ?_
      conv=>whnf
      cases hpe:(prepE (addA ⟨cov,least,most,hasTag,tag,sys,false,false,true,true,pref,med,add,times⟩ (setR ⟨cov,least,most,hasTag,tag,sys,false,false,true,true,pref,med,add,times⟩ a)) own (times.toNat:Int) != 0)with
      | true=>
       have hne:doneE ⟨cov,least,most,hasTag,tag,sys,false,false,true,true,pref,med,add,times⟩ own a ≠ 0:=bne_iff_ne.1 hpe
       conv=>whnf
       obtain⟨n1,n2⟩:=nay (by simp only[passR,hne,decide_false,Bool.and_false])
       exact fin n1 (by rw[n2];exact .noA)
      | false=>
       have heq:doneE ⟨cov,least,most,hasTag,tag,sys,false,false,true,true,pref,med,add,times⟩ own a=0:=by have:=hpe;rw[bne_eq_false_iff_eq]at this;exact this
       conv=>whnf
       obtain⟨y1,y2⟩:=yes ⟨rfl,(eq_of_beq hte),heq⟩
       exact fin y1 (by rw[y2];exact .free (encA_free fr' _))
   | false=>
    conv=>whnf
    cases hasAdd with
    | false=>
     conv=>whnf
     refine callV_pure (ref_prepend_ok fr' (addA ⟨cov,least,most,hasTag,tag,sys,false,false,false,false,pref,med,add,times⟩ (setR ⟨cov,least,most,hasTag,tag,sys,false,false,false,false,pref,med,add,times⟩ a)) own (times.toNat:Int)) ⟨.eq_of rfl (encA_free _ _),.free .int,.int_of (wrap64 (n:=(times.toNat:Int)) (by omega) (by have:=times.toNat_lt;omega)),trivial⟩ ?_
     conv=>whnf
     cases hpe:(prepE (addA ⟨cov,least,most,hasTag,tag,sys,false,false,false,false,pref,med,add,times⟩ (setR ⟨cov,least,most,hasTag,tag,sys,false,false,false,false,pref,med,add,times⟩ a)) own (times.toNat:Int) != 0)with
     | true=>
      have hne:doneE ⟨cov,least,most,hasTag,tag,sys,false,false,false,false,pref,med,add,times⟩ own a ≠ 0:=bne_iff_ne.1 hpe
      conv=>whnf
      obtain⟨n1,n2⟩:=nay (by simp only[passR,hne,decide_false,Bool.and_false])
      exact fin n1 (by rw[n2];exact .noA)
     | false=>
      have heq:doneE ⟨cov,least,most,hasTag,tag,sys,false,false,false,false,pref,med,add,times⟩ own a=0:=by have:=hpe;rw[bne_eq_false_iff_eq]at this;exact this
      conv=>whnf
      obtain⟨y1,y2⟩:=yes ⟨rfl,rfl,heq⟩
      exact fin y1 (by rw[y2];exact .free (encA_free fr' _))
    | true=>
     conv=>whnf
     refine callV_pure (ref_tag_ok fr' (setR ⟨cov,least,most,hasTag,tag,sys,false,false,false,true,pref,med,add,times⟩ a) add) ⟨.eq_of rfl (encA_free _ _),.free .int,trivial⟩ ?_
     conv=>whnf
     cases hte:(tagE (setR ⟨cov,least,most,hasTag,tag,sys,false,false,false,true,pref,med,add,times⟩ a) add == 0)with
     | false=>
      have hne:addE ⟨cov,least,most,hasTag,tag,sys,false,false,false,true,pref,med,add,times⟩ (setR ⟨cov,least,most,hasTag,tag,sys,false,false,false,true,pref,med,add,times⟩ a) ≠ 0:=ne_of_beq_false hte
      have hne':(tagE (setR ⟨cov,least,most,hasTag,tag,sys,false,false,false,true,pref,med,add,times⟩ a) add != 0)=true:=by rw[bne,hte];rfl
      conv=>whnf
      rw[hne']
      conv=>whnf
      obtain⟨n1,n2⟩:=nay (by simp only[passR,hne,decide_false,Bool.and_false,Bool.false_and])
      exact fin n1 (by rw[n2];exact .noA)
     | true=>
      conv=>whnf
      refine callV_pure (ref_prepend_ok fr' (addA ⟨cov,least,most,hasTag,tag,sys,false,false,false,true,pref,med,add,times⟩ (setR ⟨cov,least,most,hasTag,tag,sys,false,false,false,true,pref,med,add,times⟩ a)) own (times.toNat:Int)) ⟨.eq_of rfl (encA_free _ _),.free .int,.int_of (wrap64 (n:=(times.toNat:Int)) (by omega) (by have:=times.toNat_lt;omega)),trivial⟩ ?_
      conv=>whnf
      cases hpe:(prepE (addA ⟨cov,least,most,hasTag,tag,sys,false,false,false,true,pref,med,add,times⟩ (setR ⟨cov,least,most,hasTag,tag,sys,false,false,false,true,pref,med,add,times⟩ a)) own (times.toNat:Int) != 0)with
      | true=>
       have hne:doneE ⟨cov,least,most,hasTag,tag,sys,false,false,false,true,pref,med,add,times⟩ own a ≠ 0:=bne_iff_ne.1 hpe
       conv=>whnf
       obtain⟨n1,n2⟩:=nay (by simp only[passR,hne,decide_false,Bool.and_false])
       exact fin n1 (by rw[n2];exact .noA)
      | false=>
       have heq:doneE ⟨cov,least,most,hasTag,tag,sys,false,false,false,true,pref,med,add,times⟩ own a=0:=by have:=hpe;rw[bne_eq_false_iff_eq]at this;exact this
       conv=>whnf
       obtain⟨y1,y2⟩:=yes ⟨rfl,(eq_of_beq hte),heq⟩
       exact fin y1 (by rw[y2];exact .free (encA_free fr' _))
end
section
open Go.Proofs.Tryz (prog)
attribute [local irreducible] CallV RoundV
def cmpI (a b:Int):Int:=if a < b then -1 else if b < a then 1 else 0
def orI (l:List Int):Int:=(l.find? (· != 0)).getD 0
def cmpP (p q:Prefix):Int:=orI [cmpI p.addr.toNat q.addr.toNat,cmpI p.len.toNat q.len.toNat]
end
section
open Go.Proofs.Tryz (prog)
attribute [local irreducible] CallV RoundV
theorem flat1 {α:Type} (f:α→V):∀l:List α,(l.map fun x=>[f x]).flatten=l.map f
 | []=>rfl
 | x :: l=>by simp[flat1 f l]
end
section
open Go.Proofs.Tryz (prog)
attribute [local irreducible] CallV RoundV
theorem uhigh_ok (x:UInt32):PCon prog 154 [cW x,.int .i64 4] (encB true (fourB x)):=by
 refine callV_of (fn:=Go.Proofs.Tryz.f154) (body:=_) tab_ok mixed rfl rfl (by decide) (by simp[Go.Proofs.Tryz.f154]) ?_
 conv=>whnf
 refine⟨⟨by omega,by omega,by simp[tab,tabOf,nth],by omega⟩,?_⟩
 conv=>whnf
 refine callV_of (fn:=Go.Proofs.Tryz.f158) (body:=_) tab_ok mixed rfl rfl (by decide) (by simp[Go.Proofs.Tryz.f158]) ?_
 conv=>whnf
 refine⟨_,_,_,Ends.here,?_⟩
 conv=>whnf
 refine callV_loop [(2,.ptr 0 0),(5,.ptr 2 0)] ⟨rfl,rfl,trivial⟩ fun asg' body' hasg hbody=>?_
 refine callV_of (fn:=Go.Proofs.Tryz.f201) (body:=_) tab_ok mixed rfl rfl (by decide) (by simp[Go.Proofs.Tryz.f201]) ?_
 conv=>whnf
 intro _
 conv=>whnf
 refine vcg_loop tab_ok mixed (fun k:{k:Nat // k≤4}=>⟨[(0,.yld 4),(1,.ptr 3 0),(3,.int .i64 (3 - k.1))],[(4,some (.loop 23 [(2,.ptr 0 0),(5,.ptr 2 0)] [11,12] asg' body' .ready none)),(0,some (.var true 22 [.int .u32 (shr8 x k.1)])),(1,some (.arr true true 5 1 (highRows x k.1))),(2,some (.var true 127 [.osl 1 1 0 4])),(3,some (.var true 127 [.osl 1 1 0 4]))],5⟩) (fun k=>4 - k.1) ⟨0,by omega⟩ ?_ (fun k=>?_)
 ·refine Wk.of id [] ⟨?_,?_,?_,trivial⟩ (LeH.of ⟨⟨by omega,.inl ⟨by simp,_,rfl,?_⟩⟩,⟨by omega,.inl ⟨by simp,_,rfl,?_⟩⟩,⟨by omega,.inl ⟨by simp,_,rfl,?_⟩⟩,⟨by omega,.inl ⟨by simp,_,rfl,?_⟩⟩,⟨by omega,.inl ⟨by simp,_,rfl,?_⟩⟩,trivial⟩ (fun _ _ _ _ h=>h) (fun _ _=>rfl) (by omega) (by simp))
  ·exact .yld rfl (by omega)
  ·exact .ptr rfl (by omega)
  ·exact .int_of rfl
  ·exact⟨rfl,rfl,rfl,rfl,rfl,rfl,.ptr rfl (by omega),.ptr rfl (by omega),trivial⟩
  ·exact⟨id,rfl,.int_of rfl,trivial⟩
  ·exact LeB.free (blk:=.arr true true 5 1 (highRows x 0)) (highRows_free x 0)
  ·exact⟨id,rfl,.osl_of rfl (by omega) rfl,trivial⟩
  ·exact⟨id,rfl,.osl_of rfl (by omega) rfl,trivial⟩
 obtain⟨k,hk⟩:=k
 rcases k with _|_|_|_|_|k
 case succ.succ.succ.succ.succ=>omega
 case succ.succ.succ.succ.zero=>
  conv=>whnf
  refine⟨_,_,_,Ends.here,?_⟩
  conv=>whnf
  refine Ends.pure [1] ?_ ?_
  ·refine LeV.freeze_of (by simp) rfl (by simp[highRows]) (highRows_free x 4) ?_
   simp[highRows,fourB]
  ·intro z hz
   obtain rfl:=List.mem_singleton.1 hz
   exact ne_none_of rfl
 ·conv=>whnf
  refine⟨rfl,⟨by simp,by simp⟩,?_⟩
  conv=>whnf
  refine⟨rfl,_,rfl,?_⟩
  conv=>whnf
  subst hasg hbody
  refine roundV_of tab_ok mixed rfl (by simp) (show 4 < 5 by omega) ?_
  conv=>whnf
  refine⟨rfl,?_⟩
  conv=>whnf
  refine⟨rfl,⟨by simp,by simp⟩,?_⟩
  conv=>whnf
  refine⟨rfl,_,rfl,?_⟩
  conv=>whnf
  refine⟨by decide,?_⟩
  conv=>whnf
  refine⟨rfl,?_⟩
  conv=>whnf
  refine⟨⟨1,by omega⟩,Wk.of id [] ⟨.yld rfl (by omega),.ptr rfl (by omega),.int_of ?_,trivial⟩ (LeH.of ⟨⟨by omega,.inl ⟨by simp,_,rfl,rfl,rfl,rfl,rfl,rfl,rfl,.ptr rfl (by omega),.ptr rfl (by omega),trivial⟩⟩,⟨by omega,.inl ⟨by simp,_,rfl,id,rfl,.int_of ?_,trivial⟩⟩,⟨by omega,.inl ⟨by simp,_,rfl,LeB.eq_of ?_ (highRows_free x 1)⟩⟩,⟨by omega,.inl ⟨by simp,_,rfl,id,rfl,.osl_of rfl (by omega) rfl,trivial⟩⟩,⟨by omega,.inl ⟨by simp,_,rfl,id,rfl,.osl_of rfl (by omega) rfl,trivial⟩⟩,trivial⟩ (fun _ _ _ _ h=>h) (fun _ _=>rfl) (by omega) (by simp)),?_⟩
  ·simp[wrap64']
  ·refine sh_step ?_
   have:=x.toNat_lt
   simp[UInt32.toNat_shiftRight,Nat.shiftRight_eq_div_pow,Nat.div_div_eq_div_mul]<;>omega
  ·simp[highRows,shr8,cB,wrap8]
  ·simp
 ·conv=>whnf
  refine⟨rfl,⟨by simp,by simp⟩,?_⟩
  conv=>whnf
  refine⟨rfl,_,rfl,?_⟩
  conv=>whnf
  subst hasg hbody
  refine roundV_of tab_ok mixed rfl (by simp) (show 4 < 5 by omega) ?_
  conv=>whnf
  refine⟨rfl,?_⟩
  conv=>whnf
  refine⟨rfl,⟨by simp,by simp⟩,?_⟩
  conv=>whnf
  refine⟨rfl,_,rfl,?_⟩
  conv=>whnf
  refine⟨by decide,?_⟩
  conv=>whnf
  refine⟨rfl,?_⟩
  conv=>whnf
  refine⟨⟨2,by omega⟩,Wk.of id [] ⟨.yld rfl (by omega),.ptr rfl (by omega),.int_of ?_,trivial⟩ (LeH.of ⟨⟨by omega,.inl ⟨by simp,_,rfl,rfl,rfl,rfl,rfl,rfl,rfl,.ptr rfl (by omega),.ptr rfl (by omega),trivial⟩⟩,⟨by omega,.inl ⟨by simp,_,rfl,id,rfl,.int_of ?_,trivial⟩⟩,⟨by omega,.inl ⟨by simp,_,rfl,LeB.eq_of ?_ (highRows_free x 2)⟩⟩,⟨by omega,.inl ⟨by simp,_,rfl,id,rfl,.osl_of rfl (by omega) rfl,trivial⟩⟩,⟨by omega,.inl ⟨by simp,_,rfl,id,rfl,.osl_of rfl (by omega) rfl,trivial⟩⟩,trivial⟩ (fun _ _ _ _ h=>h) (fun _ _=>rfl) (by omega) (by simp)),?_⟩
  ·simp[wrap64']
  ·refine sh_step ?_
   have:=x.toNat_lt
   simp[UInt32.toNat_shiftRight,Nat.shiftRight_eq_div_pow,Nat.div_div_eq_div_mul]<;>omega
  ·simp[highRows,shr8,cB,wrap8]
  ·simp
 ·conv=>whnf
  refine⟨rfl,⟨by simp,by simp⟩,?_⟩
  conv=>whnf
  refine⟨rfl,_,rfl,?_⟩
  conv=>whnf
  subst hasg hbody
  refine roundV_of tab_ok mixed rfl (by simp) (show 4 < 5 by omega) ?_
  conv=>whnf
  refine⟨rfl,?_⟩
  conv=>whnf
  refine⟨rfl,⟨by simp,by simp⟩,?_⟩
  conv=>whnf
  refine⟨rfl,_,rfl,?_⟩
  conv=>whnf
  refine⟨by decide,?_⟩
  conv=>whnf
  refine⟨rfl,?_⟩
  conv=>whnf
  refine⟨⟨3,by omega⟩,Wk.of id [] ⟨.yld rfl (by omega),.ptr rfl (by omega),.int_of ?_,trivial⟩ (LeH.of ⟨⟨by omega,.inl ⟨by simp,_,rfl,rfl,rfl,rfl,rfl,rfl,rfl,.ptr rfl (by omega),.ptr rfl (by omega),trivial⟩⟩,⟨by omega,.inl ⟨by simp,_,rfl,id,rfl,.int_of ?_,trivial⟩⟩,⟨by omega,.inl ⟨by simp,_,rfl,LeB.eq_of ?_ (highRows_free x 3)⟩⟩,⟨by omega,.inl ⟨by simp,_,rfl,id,rfl,.osl_of rfl (by omega) rfl,trivial⟩⟩,⟨by omega,.inl ⟨by simp,_,rfl,id,rfl,.osl_of rfl (by omega) rfl,trivial⟩⟩,trivial⟩ (fun _ _ _ _ h=>h) (fun _ _=>rfl) (by omega) (by simp)),?_⟩
  ·simp[wrap64']
  ·refine sh_step ?_
   have:=x.toNat_lt
   simp[UInt32.toNat_shiftRight,Nat.shiftRight_eq_div_pow,Nat.div_div_eq_div_mul]<;>omega
  ·simp[highRows,shr8,cB,wrap8]
  ·simp
 ·conv=>whnf
  refine⟨rfl,⟨by simp,by simp⟩,?_⟩
  conv=>whnf
  refine⟨rfl,_,rfl,?_⟩
  conv=>whnf
  subst hasg hbody
  refine roundV_of tab_ok mixed rfl (by simp) (show 4 < 5 by omega) ?_
  conv=>whnf
  refine⟨rfl,?_⟩
  conv=>whnf
  refine⟨rfl,⟨by simp,by simp⟩,?_⟩
  conv=>whnf
  refine⟨rfl,_,rfl,?_⟩
  conv=>whnf
  refine⟨by decide,?_⟩
  conv=>whnf
  refine⟨rfl,?_⟩
  conv=>whnf
  refine⟨⟨4,by omega⟩,Wk.of id [] ⟨.yld rfl (by omega),.ptr rfl (by omega),.int_of ?_,trivial⟩ (LeH.of ⟨⟨by omega,.inl ⟨by simp,_,rfl,rfl,rfl,rfl,rfl,rfl,rfl,.ptr rfl (by omega),.ptr rfl (by omega),trivial⟩⟩,⟨by omega,.inl ⟨by simp,_,rfl,id,rfl,.int_of ?_,trivial⟩⟩,⟨by omega,.inl ⟨by simp,_,rfl,LeB.eq_of ?_ (highRows_free x 4)⟩⟩,⟨by omega,.inl ⟨by simp,_,rfl,id,rfl,.osl_of rfl (by omega) rfl,trivial⟩⟩,⟨by omega,.inl ⟨by simp,_,rfl,id,rfl,.osl_of rfl (by omega) rfl,trivial⟩⟩,trivial⟩ (fun _ _ _ _ h=>h) (fun _ _=>rfl) (by omega) (by simp)),?_⟩
  ·simp[wrap64']
  ·refine sh_step ?_
   have:=x.toNat_lt
   simp[UInt32.toNat_shiftRight,Nat.shiftRight_eq_div_pow,Nat.div_div_eq_div_mul]<;>omega
  ·simp[highRows,shr8,cB,wrap8]
  ·simp
theorem uhighI_ok (n:Nat) (hn:n < 65536):PCon prog 116 [cI n,.int .i64 2] (encB true (twoB n)):=by
 refine callV_of (fn:=Go.Proofs.Tryz.f116) (body:=_) tab_ok mixed rfl rfl (by decide) (by simp[Go.Proofs.Tryz.f116]) ?_
 conv=>whnf
 refine⟨⟨by omega,by omega,by simp[tab,tabOf,nth],by omega⟩,?_⟩
 conv=>whnf
 refine callV_of (fn:=Go.Proofs.Tryz.f158) (body:=_) tab_ok mixed rfl rfl (by decide) (by simp[Go.Proofs.Tryz.f158]) ?_
 conv=>whnf
 refine⟨_,_,_,Ends.here,?_⟩
 conv=>whnf
 refine callV_loop [(2,.ptr 0 0),(5,.ptr 2 0)] ⟨rfl,rfl,trivial⟩ fun asg' body' hasg hbody=>?_
 refine callV_of (fn:=Go.Proofs.Tryz.f201) (body:=_) tab_ok mixed rfl rfl (by decide) (by simp[Go.Proofs.Tryz.f201]) ?_
 conv=>whnf
 intro _
 conv=>whnf
 refine vcg_loop tab_ok mixed (fun k:{k:Nat // k≤2}=>⟨[(0,.yld 4),(1,.ptr 3 0),(3,.int .i64 (1 - k.1))],[(4,some (.loop 23 [(2,.ptr 0 0),(5,.ptr 2 0)] [11,12] asg' body' .ready none)),(0,some (.var true 3 [.int .i64 (shrI n k.1)])),(1,some (.arr true true 5 1 (twoRows n k.1))),(2,some (.var true 127 [.osl 1 1 0 2])),(3,some (.var true 127 [.osl 1 1 0 2]))],5⟩) (fun k=>2 - k.1) ⟨0,by omega⟩ ?_ (fun k=>?_)
 ·refine Wk.of id [] ⟨?_,?_,?_,trivial⟩ (LeH.of ⟨⟨by omega,.inl ⟨by simp,_,rfl,?_⟩⟩,⟨by omega,.inl ⟨by simp,_,rfl,?_⟩⟩,⟨by omega,.inl ⟨by simp,_,rfl,?_⟩⟩,⟨by omega,.inl ⟨by simp,_,rfl,?_⟩⟩,⟨by omega,.inl ⟨by simp,_,rfl,?_⟩⟩,trivial⟩ (fun _ _ _ _ h=>h) (fun _ _=>rfl) (by omega) (by simp))
  ·exact .yld rfl (by omega)
  ·exact .ptr rfl (by omega)
  ·exact .int_of rfl
  ·exact⟨rfl,rfl,rfl,rfl,rfl,rfl,.ptr rfl (by omega),.ptr rfl (by omega),trivial⟩
  ·exact⟨id,rfl,.int_of rfl,trivial⟩
  ·exact LeB.free (blk:=.arr true true 5 1 (twoRows n 0)) (twoRows_free n 0)
  ·exact⟨id,rfl,.osl_of rfl (by omega) rfl,trivial⟩
  ·exact⟨id,rfl,.osl_of rfl (by omega) rfl,trivial⟩
 obtain⟨k,hk⟩:=k
 rcases k with _|_|_|k
 case succ.succ.succ=>omega
 case succ.succ.zero=>
  conv=>whnf
  refine⟨_,_,_,Ends.here,?_⟩
  conv=>whnf
  refine Ends.pure [1] ?_ ?_
  ·refine LeV.freeze_of (by simp) rfl (by simp[twoRows]) (twoRows_free n 2) ?_
   simp[twoRows,twoB]
  ·intro z hz
   obtain rfl:=List.mem_singleton.1 hz
   exact ne_none_of rfl
 ·conv=>whnf
  refine⟨rfl,⟨by simp,by simp⟩,?_⟩
  conv=>whnf
  refine⟨rfl,_,rfl,?_⟩
  conv=>whnf
  subst hasg hbody
  refine roundV_of tab_ok mixed rfl (by simp) (show 4 < 5 by omega) ?_
  conv=>whnf
  refine⟨rfl,?_⟩
  conv=>whnf
  refine⟨rfl,⟨by simp,by simp⟩,?_⟩
  conv=>whnf
  refine⟨rfl,_,rfl,?_⟩
  conv=>whnf
  refine⟨by decide,?_⟩
  conv=>whnf
  refine⟨rfl,?_⟩
  conv=>whnf
  refine⟨⟨1,by omega⟩,Wk.of id [] ⟨.yld rfl (by omega),.ptr rfl (by omega),.int_of ?_,trivial⟩ (LeH.of ⟨⟨by omega,.inl ⟨by simp,_,rfl,rfl,rfl,rfl,rfl,rfl,rfl,.ptr rfl (by omega),.ptr rfl (by omega),trivial⟩⟩,⟨by omega,.inl ⟨by simp,_,rfl,id,rfl,.int_of ?_,trivial⟩⟩,⟨by omega,.inl ⟨by simp,_,rfl,LeB.eq_of ?_ (twoRows_free n 1)⟩⟩,⟨by omega,.inl ⟨by simp,_,rfl,id,rfl,.osl_of rfl (by omega) rfl,trivial⟩⟩,⟨by omega,.inl ⟨by simp,_,rfl,id,rfl,.osl_of rfl (by omega) rfl,trivial⟩⟩,trivial⟩ (fun _ _ _ _ h=>h) (fun _ _=>rfl) (by omega) (by simp)),?_⟩
  ·simp[wrap64']
  ·exact shI_step _ (by simp[Nat.div_div_eq_div_mul]) (by omega)
  ·simp[twoRows,shrI,cB,wrap8]
  ·simp
 ·conv=>whnf
  refine⟨rfl,⟨by simp,by simp⟩,?_⟩
  conv=>whnf
  refine⟨rfl,_,rfl,?_⟩
  conv=>whnf
  subst hasg hbody
  refine roundV_of tab_ok mixed rfl (by simp) (show 4 < 5 by omega) ?_
  conv=>whnf
  refine⟨rfl,?_⟩
  conv=>whnf
  refine⟨rfl,⟨by simp,by simp⟩,?_⟩
  conv=>whnf
  refine⟨rfl,_,rfl,?_⟩
  conv=>whnf
  refine⟨by decide,?_⟩
  conv=>whnf
  refine⟨rfl,?_⟩
  conv=>whnf
  refine⟨⟨2,by omega⟩,Wk.of id [] ⟨.yld rfl (by omega),.ptr rfl (by omega),.int_of ?_,trivial⟩ (LeH.of ⟨⟨by omega,.inl ⟨by simp,_,rfl,rfl,rfl,rfl,rfl,rfl,rfl,.ptr rfl (by omega),.ptr rfl (by omega),trivial⟩⟩,⟨by omega,.inl ⟨by simp,_,rfl,id,rfl,.int_of ?_,trivial⟩⟩,⟨by omega,.inl ⟨by simp,_,rfl,LeB.eq_of ?_ (twoRows_free n 2)⟩⟩,⟨by omega,.inl ⟨by simp,_,rfl,id,rfl,.osl_of rfl (by omega) rfl,trivial⟩⟩,⟨by omega,.inl ⟨by simp,_,rfl,id,rfl,.osl_of rfl (by omega) rfl,trivial⟩⟩,trivial⟩ (fun _ _ _ _ h=>h) (fun _ _=>rfl) (by omega) (by simp)),?_⟩
  ·simp[wrap64']
  ·exact shI_step _ (by simp[Nat.div_div_eq_div_mul]) (by omega)
  ·simp[twoRows,shrI,cB,wrap8]
  ·simp
end
section
open Go.Proofs.Tryz (prog)
attribute [local irreducible] CallV RoundV aggK
abbrev rowsP (l:List Prefix):List (List V):=l.map cellsP
def encPs (fr:Bool) (l:List Prefix):V:=.sl fr 2 (rowsP l)
theorem cellsP_all (p:Prefix):∀v∈cellsP p,Free v∧Cold v∧Fresh v:=by
 intro v hv
 simp only[cellsP,List.mem_cons,List.not_mem_nil,or_false]at hv
 rcases hv with rfl|rfl<;>exact⟨.int,.int,.int⟩
theorem rowsP_all (l:List Prefix):∀x∈rowsP l,∀v∈x,Free v∧Cold v∧Fresh v:=by
 intro x hx v hv
 obtain⟨r,_,rfl⟩:=List.mem_map.1 hx
 exact cellsP_all r v hv
theorem rowsP_free (l:List Prefix):∀x∈rowsP l,∀v∈x,Free v:=fun x hx v hv=>(rowsP_all l x hx v hv).1
theorem encPs_free (fr:Bool) (l:List Prefix):Free (encPs fr l):=.sl (rowsP_free l)
theorem encPs_cold (l:List Prefix):Cold (encPs false l):=.sl fun x hx v hv=>(rowsP_all l x hx v hv).2.1
theorem idxP {l:List Prefix} {i:Nat} (h:i < l.length):(rowsP l)[(i:Int).toNat]? = some (cellsP l[i]):=by simp[rowsP,h]
theorem wfW (x:UInt32):(Lit.int .u32 (x.toNat:Int)).wf=true:=by
 have:=x.toNat_lt
 simp only[Lit.wf,Bool.and_eq_true,decide_eq_true_eq]
 exact⟨by simp[IntKind.min,IntKind.signed];try omega,by simp[IntKind.max,IntKind.signed,IntKind.bits];omega⟩
theorem wfB (x:UInt8):(Lit.int .u8 (x.toNat:Int)).wf=true:=by
 have:=x.toNat_lt
 simp only[Lit.wf,Bool.and_eq_true,decide_eq_true_eq]
 exact⟨by simp[IntKind.min,IntKind.signed];try omega,by simp[IntKind.max,IntKind.signed,IntKind.bits];omega⟩
def litsP (p:Prefix):List Lit:=[.int .u32 (p.addr.toNat:Int),.int .u8 (p.len.toNat:Int)]
theorem litsP_inj {p q:Prefix}:litsP p=litsP q↔p=q:=by
 constructor
 ·intro h
  obtain⟨a,b⟩:=p
  obtain⟨c,d⟩:=q
  simp only[litsP,List.cons.injEq,Lit.int.injEq,true_and,and_true]at h
  rw[UInt32.toNat_inj.1 (by omega:a.toNat=c.toNat),UInt8.toNat_inj.1 (by omega:b.toNat=d.toNat)]
 ·exact fun h=>by rw[h]
theorem litP (p:Prefix) {K:List Lit→Prop} (h:K (litsP p)):litK tab 60 31 (cellsP p) K:=And.intro (wfW _) (And.intro (wfB _) h)
theorem aggK_neq {T:Tab} {t:Nat} {fs:List (Nat × Nat)} (hk:(T t).key=true) (hs:(T t).k=.struct fs) {cs ds:List V} {K:V→Prop}
  (h:litK T 60 t cs fun la=>litK T 60 t ds fun lb=>∃r:Bool,(r=true↔la=lb)∧K (.bool (!r))):aggK T .neq t cs ds K:=by
 rw[aggK,hk,hs]
 exact h
theorem aggK_eql {T:Tab} {t:Nat} {fs:List (Nat × Nat)} (hk:(T t).key=true) (hs:(T t).k=.struct fs) {cs ds:List V} {K:V→Prop}
  (h:litK T 60 t cs fun la=>litK T 60 t ds fun lb=>∃r:Bool,(r=true↔la=lb)∧K (.bool r)):aggK T .eql t cs ds K:=by
 rw[aggK,hk,hs]
 exact h
theorem neqP (r s:Prefix) {K:V→Prop} (h:K (.bool (!decide (r=s)))):aggK tab .neq 31 (cellsP r) (cellsP s) K:=by
 refine aggK_neq rfl rfl ?_
 refine litP r ?_
 refine litP s ?_
 exact⟨decide (r=s),by rw[litsP_inj];simp,h⟩
theorem eqlP (r s:Prefix) {K:V→Prop} (h:K (.bool (decide (r=s)))):aggK tab .eql 31 (cellsP r) (cellsP s) K:=by
 refine aggK_eql rfl rfl ?_
 refine litP r ?_
 refine litP s ?_
 exact⟨decide (r=s),by rw[litsP_inj];simp,h⟩
theorem keyP (p:Prefix):KeyV tab 31 (encP p):=⟨rfl,rfl,rfl,litsP p,litP p rfl⟩
theorem cmpP_def (p q:Prefix):cmpP p q=if p.addr.toNat < q.addr.toNat then -1 else if q.addr.toNat < p.addr.toNat then 1 else if p.len.toNat < q.len.toNat then -1 else if q.len.toNat < p.len.toNat then 1 else 0:=by
 unfold cmpP orI cmpI
 simp only[Int.ofNat_lt]
 by_cases h1:p.addr.toNat < q.addr.toNat
 ·simp[h1]
 ·by_cases h2:q.addr.toNat < p.addr.toNat
  ·simp[h1,h2]
  ·by_cases h3:p.len.toNat < q.len.toNat
   ·simp[h1,h2,h3]
   ·by_cases h4:q.len.toNat < p.len.toNat<;>simp[h1,h2,h3,h4]
theorem pfx_eq {p q:Prefix} (h1:p.addr.toNat=q.addr.toNat) (h2:p.len.toNat=q.len.toNat):p=q:=by
 obtain⟨a,b⟩:=p
 obtain⟨c,d⟩:=q
 obtain rfl:a=c:=UInt32.toNat_inj.1 h1
 obtain rfl:b=d:=UInt8.toNat_inj.1 h2
 rfl
theorem cmpP_zero {p q:Prefix}:cmpP p q=0↔p=q:=by
 rw[cmpP_def]
 constructor
 ·intro h
  repeat' split at h
  all_goals first|(exact absurd h (by decide))|skip
  exact pfx_eq (by omega) (by omega)
 ·rintro rfl;simp
theorem refCompare_ok (p q:Prefix):PCon prog 168 [encP p,encP q] (.int .i64 (cmpP p q)):=by
 refine callV_of (fn:=Go.Proofs.Tryz.f168) (body:=_) tab_ok mixed rfl rfl (by decide) (by simp[Go.Proofs.Tryz.f168]) ?_
 have fin:∀{s:St} {r:Int},cmpP p q=r→∃v1 h' nx',Ends 0 s (.int .i64 r) v1 h' nx'∧(v1=.int .i64 (cmpP p q)∧h'=[]∧nx'=0):=fun h=>Ends.pure [] (.int_of h.symm) (by simp)
 conv=>whnf
 cases h1:decide ((p.addr.toNat:Int) < (q.addr.toNat:Int))with
 | true=>
  conv=>whnf
  refine fin ?_
  simp only[decide_eq_true_eq]at h1
  rw[cmpP_def,if_pos (by omega)]
 | false=>
 simp only[decide_eq_false_iff_not]at h1
 conv=>whnf
 cases h2:((p.addr.toNat:Int) == (q.addr.toNat:Int))with
 | false=>
  conv=>whnf
  refine eqlP p q ?_
  have hne:decide (p=q)=false:=by simp;rintro rfl;simp at h2
  simp at h2
  rw[hne]
  conv=>whnf
  refine fin ?_
  rw[cmpP_def,if_neg (by omega),if_pos (by omega)]
 | true=>
 simp at h2
 conv=>whnf
 split
 ·rename_i h3
  conv=>whnf
  refine fin ?_
  simp only[decide_eq_true_eq]at h3
  rw[cmpP_def,if_neg (by omega),if_neg (by omega),if_pos (by omega)]
 ·rename_i h3
  simp only[decide_eq_false_iff_not]at h3
  conv=>whnf
  refine eqlP p q ?_
  conv=>whnf
  split
  ·rename_i h4
   conv=>whnf
   exact fin (cmpP_zero.2 (by simpa using h4))
  ·rename_i h4
   conv=>whnf
   refine fin ?_
   have h4:p ≠ q:=by simpa using h4
   rw[cmpP_def,if_neg (by omega),if_neg (by omega),if_neg (by omega),if_pos]
   rcases Nat.lt_or_ge q.len.toNat p.len.toNat with h|h
   ·exact h
   ·exact absurd (pfx_eq (by omega) (by omega)) h4
theorem equalP_ok (fr fr':Bool) (a b:List Prefix):PCon prog 108 [encPs fr a,encPs fr' b] (.bool (decide (a=b))):=by
 refine callV_of (fn:=Go.Proofs.Tryz.f108) (body:=_) tab_ok mixed rfl rfl (by decide) (by simp[Go.Proofs.Tryz.f108]) ?_
 conv=>whnf
 intro ha
 have ha:a.length≤maxLen:=by simpa[gd]using ha
 conv=>whnf
 intro hb
 conv=>whnf
 split
 ·rename_i hne
  conv=>whnf
  refine Ends.pure [] (.bool_of ?_) (by simp)
  symm
  rw[decide_eq_false_iff_not]
  rintro rfl
  simp at hne
 ·rename_i hne
  have hlen:a.length=b.length:=by simp at hne;omega
  conv=>whnf
  intro _
  conv=>whnf
  refine vcg_loop tab_ok mixed (fun i:{i:Nat // i≤a.length∧a.take i=b.take i}=>⟨[(0,encPs fr a),(1,encPs fr' b),(12,cI a.length),(13,.int .i64 i.1)],[],0⟩) (fun i=>a.length - i.1) ⟨0,by omega,rfl⟩ (Wk.of id [] ⟨.free (encPs_free _ _),.free (encPs_free _ _),.int_of (by simp),.int_of rfl,trivial⟩ (LeH.nil (Nat.le_refl _) (fun b h=>by omega) (by simp))) (fun i=>?_)
  obtain⟨i,hi,hr⟩:=i
  conv=>whnf
  split
  ·rename_i hc
   have hc:i < a.length:=by simpa using hc
   have hc':i < b.length:=by omega
   conv=>whnf
   refine ixK (idxP hc) ?_
   conv=>whnf
   refine ixK (idxP hc') ?_
   conv=>whnf
   refine neqP a[i] b[i] ?_
   conv=>whnf
   refine⟨by kernel_rfl,?_⟩
   conv=>whnf
   split
   ·rename_i h1
    conv=>whnf
    refine Ends.pure [] (.bool_of ?_) (by simp)
    symm
    rw[decide_eq_false_iff_not]
    rintro rfl
    simp at h1
   ·rename_i h1
    have h1:a[i]=b[i]:=by simpa using h1
    conv=>whnf
    exact⟨⟨i + 1,by omega,take_step hc hc' hr h1⟩,Wk.of id [] ⟨.free (encPs_free _ _),.free (encPs_free _ _),.int_of rfl,.int_of (wrap64_succ hc ha),trivial⟩ (LeH.nil (Nat.le_refl _) (fun b h=>by omega) (by simp)),by simp only;omega⟩
  ·rename_i hc
   have hc:i=a.length:=by simp at hc;omega
   subst hc
   rw[List.take_length,hlen,List.take_length]at hr
   conv=>whnf
   refine Ends.pure [] (.bool_of ?_) (by simp)
   simp[hr]
theorem refSames_ok (fr fr':Bool) (a b:List Prefix):PCon prog 139 [encPs fr a,encPs fr' b] (.bool (decide (a=b))):=by
 refine callV_of (fn:=Go.Proofs.Tryz.f139) (body:=_) tab_ok mixed rfl rfl (by decide) (by simp[Go.Proofs.Tryz.f139]) ?_
 conv=>whnf
 intro ha
 have ha:a.length≤maxLen:=by simpa[gd]using ha
 conv=>whnf
 intro hb
 conv=>whnf
 split
 ·rename_i hne
  conv=>whnf
  refine Ends.pure [] (.bool_of ?_) (by simp)
  symm
  rw[decide_eq_false_iff_not]
  rintro rfl
  simp at hne
 ·rename_i hne
  have hlen:a.length=b.length:=by simp at hne;omega
  conv=>whnf
  refine vcg_loop tab_ok mixed (fun i:{i:Nat // i≤a.length∧a.take i=b.take i}=>⟨[(0,encPs fr a),(1,encPs fr' b),(5,.int .i64 i.1)],[],0⟩) (fun i=>a.length - i.1) ⟨0,by omega,rfl⟩ (Wk.of id [] ⟨.free (encPs_free _ _),.free (encPs_free _ _),.int_of rfl,trivial⟩ (LeH.nil (Nat.le_refl _) (fun b h=>by omega) (by simp))) (fun i=>?_)
  obtain⟨i,hi,hr⟩:=i
  conv=>whnf
  intro _
  conv=>whnf
  split
  ·rename_i hc
   have hc:i < a.length:=by simpa using hc
   have hc':i < b.length:=by omega
   conv=>whnf
   refine ixK (idxP hc) ?_
   conv=>whnf
   refine ixK (idxP hc') ?_
   conv=>whnf
   refine neqP a[i] b[i] ?_
   conv=>whnf
   refine⟨by kernel_rfl,?_⟩
   conv=>whnf
   split
   ·rename_i h1
    conv=>whnf
    refine Ends.pure [] (.bool_of ?_) (by simp)
    symm
    rw[decide_eq_false_iff_not]
    rintro rfl
    simp at h1
   ·rename_i h1
    have h1:a[i]=b[i]:=by simpa using h1
    conv=>whnf
    exact⟨⟨i + 1,by omega,take_step hc hc' hr h1⟩,Wk.of id [] ⟨.free (encPs_free _ _),.free (encPs_free _ _),.int_of (wrap64_succ hc ha),trivial⟩ (LeH.nil (Nat.le_refl _) (fun b h=>by omega) (by simp)),by simp only;omega⟩
  ·rename_i hc
   have hc:i=a.length:=by simp at hc;omega
   subst hc
   rw[List.take_length,hlen,List.take_length]at hr
   conv=>whnf
   refine Ends.pure [] (.bool_of ?_) (by simp)
   simp[hr]
end
section
open Go.Shelf Go.Lib Go.Sort
open Go.Proofs.Tryz (prog)
theorem k76 (x:Int) (W:World):Calls prog 175 #[.int .u32 x] W fun e w'=>e=.returned (.bool false)∧w'=W:=by
 go_enter Go.Proofs.Tryz.func175,Go.Proofs.Tryz.ntmps175
 go_wp2
 go_ret
 exact⟨by simp,rfl⟩
theorem k41 (x y:Int) (W:World):Calls prog 146 #[.int .u32 x,.int .u32 y] W fun e w'=>e=.returned (.int .i64 (cmpI x y))∧w'=W:=by
 go_enter Go.Proofs.Tryz.func146,Go.Proofs.Tryz.ntmps146
 go_wp2_with (go_at_call 175;refine(k76 _ _).mono ?_;rintro e w' ⟨rfl,rfl⟩)
 all_goals (go_ret;refine⟨?_,rfl⟩;unfold cmpI;(repeat' split)<;>first|rfl|(exfalso;omega))
theorem k77 (x:Int) (W:World):Calls prog 176 #[.int .u8 x] W fun e w'=>e=.returned (.bool false)∧w'=W:=by
 go_enter Go.Proofs.Tryz.func176,Go.Proofs.Tryz.ntmps176
 go_wp2
 go_ret
 exact⟨by simp,rfl⟩
theorem k42 (x y:Int) (W:World):Calls prog 147 #[.int .u8 x,.int .u8 y] W fun e w'=>e=.returned (.int .i64 (cmpI x y))∧w'=W:=by
 go_enter Go.Proofs.Tryz.func147,Go.Proofs.Tryz.ntmps147
 go_wp2_with (go_at_call 176;refine(k77 _ _).mono ?_;rintro e w' ⟨rfl,rfl⟩)
 all_goals (go_ret;refine⟨?_,rfl⟩;unfold cmpI;(repeat' split)<;>first|rfl|(exfalso;omega))
def sel2 (a b:Int):Nat→Int
 | 0=>a
 | _=>b
def or2 (a b:Int):Int:=if a ≠ 0 then a else b
theorem k40 (blk c:Nat) (a b:Int) (W:World) (h0:W.cell? ⟨blk,0,none⟩=some (.int .i64 a)) (h1:W.cell? ⟨blk,1,none⟩=some (.int .i64 b)) :
  Calls prog 145 #[.slice (some ⟨blk,0,none⟩) 2 c] W fun e w'=>e=.returned (.int .i64 (or2 a b))∧w'=W:=by
 go_enter Go.Proofs.Tryz.func145,Go.Proofs.Tryz.ntmps145
 go_wp2
 go_loop [5,8] (fun _ i=>∃k:Nat,k≤2∧i=.int .i64 k∧(0 < k→a=0)∧(1 < k→b=0)) (fun _ i=>match i with|.int _ m=>2 - m.toNat|_=>0)
 case atStart=>exact⟨0,Nat.zero_le _,rfl,(fun h=>absurd h (Nat.lt_irrefl _)),(fun h=>absurd h (Nat.not_lt_zero _))⟩
 case round=>
  obtain⟨k,hk,rfl,q0,q1⟩:=hrel
  have hcell:(k:Int) < 2→W.cell? ⟨blk,k,none⟩=some (.int .i64 (sel2 a b k)):=fun h=>by
   rcases k with _|_|k
   ·exact h0
   ·exact h1
   ·omega
  go_wp2
  ·have hlt:(k:Int) < 2:=by assumption
   have heq:(sel2 a b k != 0)=true:=by assumption
   go_ret
   refine⟨?_,rfl⟩
   rcases k with _|_|k
   ·have:a ≠ 0:=by simpa[sel2]using heq
    show _=Ending.returned (.int .i64 (or2 a b))
    rw[or2,if_pos this]
    rfl
   ·rw[or2,if_neg (by simp[q0 (by omega)])]
    rfl
   ·omega
  ·have hlt:(k:Int) < 2:=by assumption
   have hneq:(sel2 a b k != 0)=false:=by assumption
   have hs:sel2 a b k=0:=by simpa using hneq
   refine⟨⟨k + 1,by omega,rfl,fun hj=>?_,fun hj=>?_⟩,by show 2 - ((k:Int)+ 1).toNat < 2 - (k:Int).toNat;omega⟩
   ·rcases k with _|_|k
    ·exact hs
    ·exact q0 (by omega)
    ·omega
   ·rcases k with _|_|k
    ·omega
    ·exact hs
    ·omega
  ·have hge:2≤(k:Int):=by assumption
   have e2:k=2:=by omega
   subst e2
   go_ret
   refine⟨?_,rfl⟩
   rw[or2,if_neg (by simp[q0 (by omega)]),q1 (by omega)]
   rfl
theorem k40v (W:World) (r s:Int) (ty:TypeId):Calls prog 145 #[.slice (some ⟨W.heap.size,0,none⟩) 2 2] (W.alloc (.cells #[.int .i64 r,.int .i64 s] ty)).drew fun e w'=>e=.returned (.int .i64 (or2 r s))∧w'=(W.alloc (.cells #[.int .i64 r,.int .i64 s] ty)).drew:=by
 have h:(W.alloc (.cells #[.int .i64 r,.int .i64 s] ty)).heap[W.heap.size]? = some (.cells #[.int .i64 r,.int .i64 s] ty (0,0)):=heap_alloc_new W _
 refine k40 _ _ r s _ ?_ ?_
 ·show World.cell? (W.alloc (.cells #[.int .i64 r,.int .i64 s] ty)) _=_
  simp only[World.cell?]
  erw [h]
  rfl
 ·show World.cell? (W.alloc (.cells #[.int .i64 r,.int .i64 s] ty)) _=_
  simp only[World.cell?]
  erw [h]
  rfl
def cmp2 (a b c d:Int):Int:=or2 (cmpI a c) (cmpI b d)
theorem k16 (a b c d:Int) (W:World):Calls prog 97 #[.agg #[.int .u32 a,.int .u8 b],.agg #[.int .u32 c,.int .u8 d]] W fun e w'=>e=.returned (.int .i64 (cmp2 a b c d))∧∃q os',w'=grow (W.drewN q) os':=by
 have g41:=k41 a c
 have g42:=k42 b d
 unfold cmp2
 generalize cmpI a c=r at g41 ⊢
 generalize cmpI b d=s at g42 ⊢
 go_enter Go.Proofs.Tryz.func97,Go.Proofs.Tryz.ntmps97
 go_wp2
 have f0:((W.alloc (Obj.cells #[Value.int IntKind.u32 a,Value.int IntKind.u8 b] 31)).alloc (Obj.cells #[Value.int IntKind.u32 c,Value.int IntKind.u8 d] 31)).heap[W.heap.size]? = some (Obj.cells #[Value.int IntKind.u32 a,Value.int IntKind.u8 b] 31):=by
  rw[Below.heap_alloc _ _ _ (by simp)];exact heap_alloc_new W _
 have f1:((W.alloc (Obj.cells #[Value.int IntKind.u32 a,Value.int IntKind.u8 b] 31)).alloc (Obj.cells #[Value.int IntKind.u32 c,Value.int IntKind.u8 d] 31)).heap[W.heap.size + 1]? = some (Obj.cells #[Value.int IntKind.u32 c,Value.int IntKind.u8 d] 31):=by
  have:=heap_alloc_new (W.alloc (Obj.cells #[Value.int IntKind.u32 a,Value.int IntKind.u8 b] 31)) (Obj.cells #[Value.int IntKind.u32 c,Value.int IntKind.u8 d] 31)
  simpa using this
 have fs:((W.alloc (Obj.cells #[Value.int IntKind.u32 a,Value.int IntKind.u8 b] 31)).alloc (Obj.cells #[Value.int IntKind.u32 c,Value.int IntKind.u8 d] 31))=grow W #[Obj.cells #[Value.int IntKind.u32 a,Value.int IntKind.u8 b] 31,Obj.cells #[Value.int IntKind.u32 c,Value.int IntKind.u8 d] 31]:=by
  rw[alloc_eq_grow,alloc_eq_grow,grow_grow];rfl
 generalize ((W.alloc (Obj.cells #[Value.int IntKind.u32 a,Value.int IntKind.u8 b] 31)).alloc (Obj.cells #[Value.int IntKind.u32 c,Value.int IntKind.u8 d] 31))=W2 at f0 f1 fs ⊢
 replace fs:=fs.symm
 have c0:W2.cell? ⟨W.heap.size,0,none⟩=some (.int .u32 a):=by simp[World.cell?,f0]
 have c1:W2.cell? ⟨W.heap.size,1,none⟩=some (.int .u8 b):=by simp[World.cell?,f0]
 have c2:W2.cell? ⟨W.heap.size + 1,0,none⟩=some (.int .u32 c):=by simp[World.cell?,f1]
 have c3:W2.cell? ⟨W.heap.size + 1,1,none⟩=some (.int .u8 d):=by simp[World.cell?,f1]
 refine wp_region_still_tail 10 (show prog.follows .mixedOrders=true from rfl) (by kernel_rfl) ?_
 change wpStill _ _ W2.drew _ _ _
 simp only[List.take_succ_cons,List.take_zero,List.drop_succ_cons,List.drop_zero]
 still_step
 still_step
 still_step
 still_step
 still_call (g41 _)
 still_step
 still_step
 still_step
 still_step
 still_call (g42 _)
 refine wpStill_nil ?_
 change wpList _ _ _ _ _ W2.drew
 go_wp2_with (go_at_call 145;refine(k40v _ _ _ _).mono ?_;rintro e w' ⟨rfl,rfl⟩)
 go_ret
 refine⟨rfl,1,#[Obj.cells #[Value.int IntKind.u32 a,Value.int IntKind.u8 b] 31,Obj.cells #[Value.int IntKind.u32 c,Value.int IntKind.u8 d] 31,Obj.cells #[Value.int IntKind.i64 r,Value.int IntKind.i64 s] 3],?_⟩
 subst fs
 show(World.alloc _ _).drew=_
 rw[alloc_eq_grow,grow_grow]
 rfl
end
section
open Go.Proofs.Tryz (prog)
attribute [local irreducible] CallV RoundV
instance:Inhabited Prefix:=⟨⟨0,0⟩⟩
def pkey (p:Prefix):Nat:=p.addr.toNat * 256 + p.len.toNat
theorem pkey_inj {p q:Prefix} (h:pkey p=pkey q):p=q:=by
 have h1:=p.len.toNat_lt
 have h2:=q.len.toNat_lt
 unfold pkey at h
 exact pfx_eq (by omega) (by omega)
theorem cmpP_lt (p q:Prefix):cmpP p q < 0↔pkey p < pkey q:=by
 have h1:=p.len.toNat_lt
 have h2:=q.len.toNat_lt
 rw[cmpP_def]
 unfold pkey
 repeat' split
 all_goals first|(constructor<;>intro _<;>omega)
theorem cmp2_P (p q:Prefix):cmp2 p.addr.toNat p.len.toNat q.addr.toNat q.len.toNat=cmpP p q:=by
 unfold cmp2 or2 cmpP orI
 by_cases h:cmpI p.addr.toNat q.addr.toNat=0
 ·by_cases h':cmpI p.len.toNat q.len.toNat=0<;>simp[h,h']
 ·simp[h]
theorem ltP (p q:Prefix):ltOf cmpP p q=decide (pkey p < pkey q):=by
 unfold ltOf
 rw[Bool.eq_iff_iff]
 simp only[decide_eq_true_eq]
 exact cmpP_lt p q
theorem swoP:Go.Sort.SWO (ltOf cmpP) where
 irrefl x:=by rw[ltP];simp
 trans x y z h1 h2:=by rw[ltP]at *;simp at *;omega
 ntrans x y z h1 h2:=by rw[ltP]at *;simp at *;omega
theorem totP (x y:Prefix) (h1:ltOf cmpP x y=false) (h2:ltOf cmpP y x=false):x=y:=by
 rw[ltP]at *
 simp at h1 h2
 exact pkey_inj (by omega)
def valP (p:Prefix):List Value:=[.int .u32 p.addr.toNat,.int .u8 p.len.toNat]
def sortPs (l:List Prefix):List Prefix:=l.mergeSort fun x y=>!(ltOf cmpP) y x
theorem sortPs_len (l:List Prefix):(sortPs l).length=l.length:=by unfold sortPs;exact List.length_mergeSort l
theorem flatP_len:∀l:List Prefix,(rowsP l).flatten.length=l.length * 2
 | []=>rfl
 | p :: l=>by
  have:=flatP_len l
  simp only[rowsP,List.map_cons,List.flatten_cons,List.length_append,List.length_cons]at this ⊢
  rw[this]
  simp[cellsP]
  omega
theorem flatP:∀(l:List Prefix) (j:Nat) (v:V),(rowsP l).flatten[j]? = some v→j < l.length * 2∧∀(G:Gh) (w:World) (u:Value),vr G w v u↔u=(valP (l.toArray[j / 2]!))[j % 2]!
 | [],j,v,h=>by simp at h
 | p :: l,0,v,h=>by
  simp[cellsP]at h
  subst h
  exact⟨by simp<;>omega,fun G w u=>⟨fun h=>by cases h;simp[valP],fun h=>by subst h;simp[valP];exact .int _ _⟩⟩
 | p :: l,1,v,h=>by
  simp[cellsP]at h
  subst h
  exact⟨by simp<;>omega,fun G w u=>⟨fun h=>by cases h;simp[valP],fun h=>by subst h;simp[valP];exact .int _ _⟩⟩
 | p :: l,j + 2,v,h=>by
  have h':(rowsP l).flatten[j]? = some v:=by simpa[cellsP]using h
  obtain⟨h1,h2⟩:=flatP l j v h'
  refine⟨by simp<;>omega,fun G w u=>?_⟩
  rw[h2 G w u]
  have e1:(j + 2) / 2=j / 2 + 1:=by omega
  have e2:(j + 2) % 2=j % 2:=by omega
  rw[e1,e2]
  simp
theorem flatP_at (l:List Prefix) (j:Nat) (h:j < l.length * 2):∃v,(rowsP l).flatten[j]? = some v:=
 ⟨_,List.getElem?_eq_getElem (by rw[flatP_len];exact h)⟩
theorem oneP (p:Prefix) (i:Nat):((valP p)[i]!).oneCell'=true:=by
 rcases i with _|_|i
 ·rfl
 ·rfl
 ·simp[valP];rfl
section
variable {w : World} {c : Nat} {cs : Array Value} {ty : TypeId} (hh : w.heap[c]? = some (.cells cs ty (0, 0)))
include hh
theorem sw_at (n:Nat) (d:Array Prefix) (os:Array Obj):(sortWorldK valP 2 w c 0 n d os).heap[c]? = some (.cells (Go.Sort.putCells id 0 (Go.Sort.flatK valP 2 d) cs) ty (0,0)):=by
 have hlt:c < w.heap.size:=(Array.getElem?_eq_some_iff.1 hh).1
 unfold sortWorldK Go.Sort.grow Go.Sort.putRowK Go.Sort.putRow Go.Sort.mapBlock
 show((w.heap.modify c _)++ os)[c]? = _
 rw[Array.getElem?_append_left (by simpa using hlt)]
 simp[Array.getElem?_modify,hh,Go.Sort.onCells]
end
theorem sw_other {w:World} {c:Nat} (n:Nat) (d:Array Prefix) (os:Array Obj) {k:Nat} (hk:k < w.heap.size) (hne:k ≠ c):(sortWorldK valP 2 w c 0 n d os).heap[k]? = w.heap[k]?:=by
 unfold sortWorldK Go.Sort.grow Go.Sort.putRowK Go.Sort.putRow Go.Sort.mapBlock
 show((w.heap.modify c _)++ os)[k]? = _
 rw[Array.getElem?_append_left (by simpa using hk)]
 simp[Array.getElem?_modify,Ne.symm hne]
theorem sw_size {w:World} {c:Nat} (n:Nat) (d:Array Prefix) (os:Array Obj):w.heap.size≤(sortWorldK valP 2 w c 0 n d os).heap.size:=by
 unfold sortWorldK Go.Sort.grow Go.Sort.putRowK Go.Sort.putRow Go.Sort.mapBlock
 show _≤((w.heap.modify c _)++ os).size
 simp
theorem sortF_ok (fr ex:Bool) (l:List Prefix) (hl:l.length < 4611686018427387904) :
  CallV prog 143 [.osl 0 2 0 l.length,.fn (.func 97) [] []] [(0,some (.arr fr ex 31 2 (rowsP l)))] 1 (fun v' h' nx'=>v'=.tup []∧h'=[(0,some (.arr fr ex 31 2 (rowsP (sortPs l))))]∧nx'=1):=by
 unfold CallV
 refine⟨⟨_,Go.Proofs.Tryz.func143⟩,fun G w us hr hv=>.inl ⟨⟨_,Go.Proofs.Tryz.func143,rfl,by decide⟩,?_⟩⟩
 obtain⟨u,u',rfl,hu,hu'⟩:=vrs_two hv
 obtain rfl:u'=.func (.func 97) #[] #[]:=by
  cases hu' with
  | fn _ _ _ us ws h1 h2 _ _=>
   cases us with
   | nil=>cases ws with
    | nil=>rfl
    | cons _ _=>simp at h2
   | cons _ _=>simp at h1
 have htup:∀{G:Gh} {w:World},vr G w (.tup []) (.tuple #[]):=fun {G w}=>.tup [] [] rfl (fun j v u h=>by simp at h)
 have hown:=hr.own 0 _ rfl
 by_cases h0:l=[]
 ·subst h0
  obtain⟨A,cap,rfl⟩:∃A cap,u=.slice A 0 cap:=by
   cases hu with
   | osl _ _ _ _ c cap m _ _ _ _ _=>exact⟨_,_,rfl⟩
   | oslz _ _ _ A=>exact⟨_,_,rfl⟩
  refine(AnyF.slices_SortFunc_none Go.Proofs.Tryz.sortPfx A cap _ w).mono ?_
  rintro e w' ⟨rfl,rfl⟩
  refine⟨_,_,_,_,G,rfl,⟨rfl,rfl,rfl⟩,htup,?_,Evo.refl _ _ _,Nat.le_refl _⟩
  have:sortPs []=[]:=by simp[sortPs]
  rw[this]
  exact hr
 have hpos:0 < l.length:=List.length_pos_iff.2 h0
 obtain⟨hrow,hH⟩:(∀x,x∈rowsP l→x.length=2)∧((G.ι 0=none∧rowsP l=[])∨Holds G w 0 fr ex 31 (rowsP l).flatten):=hown
 obtain⟨c,cs,hι,hh,hle,hex,hfr,hcell,hone⟩:Holds G w 0 fr ex 31 (rowsP l).flatten:=by
  rcases hH with⟨_,h⟩|h
  ·exact absurd (by simpa using h) h0
  ·exact h
 obtain⟨cap,rfl⟩:∃cap,u=.slice (some ⟨c,0,none⟩) l.toArray.size cap:=by
  generalize hn:l.length=n at hu
  cases hu with
  | osl _ _ _ _ c' cap m hc _ _ _ _=>
   rw[hι]at hc
   obtain rfl:=Option.some.inj hc
   exact⟨cap,by simp[hn]⟩
  | oslz _ _ _ A=>omega
 have hclt:c < w.heap.size:=hr.lt 0 c hι
 have hHK:Go.Sort.HoldsK valP 2 w c 0 l.toArray:=by
  intro j hj
  rw[Go.Sort.size_flatK]at hj
  have hj':j < l.length * 2:=by simpa using hj
  obtain⟨v,hv⟩:=flatP_at l j hj'
  obtain⟨u,hu,_,hvu⟩:=hcell j v hv
  rw[(flatP l j v hv).2 G w u]at hvu
  refine⟨?_,?_⟩
  ·rw[Go.Sort.get_flatK _ _ _ _ hj,← hvu]
   simp[World.cell?,hh,hu]
  ·simp only[World.frozen?,hh]
   rfl
 have hcmp:CmpLays prog 97 #[] valP 2 cmpP c 0 l.toArray.size w:=by
  intro m os dk _ x y
  have:=k16 x.addr.toNat x.len.toNat y.addr.toNat y.len.toNat (sortWorldK valP 2 w c 0 m dk os)
  rw[cmp2_P]at this
  exact this
 have eg:∀args w,(callFunc 97 args).run prog w=.ok (.enter 97 args) w:=enters_of Go.Proofs.Tryz.func97 (by kernel_rfl) rfl
 refine(AnyQ.slices_SortFunc_total Go.Proofs.Tryz.sortPfx 2 Go.Proofs.Tryz.isAgg31 Go.Proofs.Tryz.sizeOf31 valP (fun _=>rfl) (fun x v hv=>by simp[valP]at hv;rcases hv with rfl|rfl<;>rfl) cmpP swoP 97 #[] c 0 cap l.toArray w eg hcmp hHK hclt (by simpa using hl) totP).mono ?_
 rintro e w' ⟨rfl,n,os,rfl⟩
 have el:(l.toArray.toList.mergeSort fun x y=>!(ltOf cmpP) y x)=sortPs l:=rfl
 rw[el]
 have hapart:∀k,G.amb k→k ≠ c:=fun k hk e=>hr.apart 0 _ c rfl hι (e▸hk)
 have hat:=sw_at hh n (sortPs l).toArray os
 have hkeep:∀k,G.amb k→(sortWorldK valP 2 w c 0 n (sortPs l).toArray os).heap[k]? = w.heap[k]?:=fun k hk=>sw_other n _ os (hr.amb_lt k hk) (hapart k hk)
 have hsz:=sw_size (w:=w) (c:=c) n (sortPs l).toArray os
 have hcs:(Go.Sort.putCells id 0 (Go.Sort.flatK valP 2 (sortPs l).toArray) cs).size=cs.size:=by simp[Go.Sort.putCells]
 have hgot:∀j u,(Go.Sort.putCells id 0 (Go.Sort.flatK valP 2 (sortPs l).toArray) cs)[j]? = some u→(j < l.length * 2∧u=(valP ((sortPs l).toArray[j / 2]!))[j % 2]!)∨cs[j]? = some u:=by
  intro j u hj
  simp only[Go.Sort.putCells,Array.getElem?_mapIdx,Option.map_eq_some_iff]at hj
  obtain⟨x,hx,hj⟩:=hj
  split at hj
  ·rename_i hlt
   rw[Go.Sort.size_flatK]at hlt
   have h2:=hlt.2
   rw[Nat.zero_add]at h2
   left
   refine⟨by simpa[sortPs_len]using h2,?_⟩
   rw[← hj,Nat.sub_zero,Go.Sort.get_flatK _ _ _ _ h2]
   rfl
  ·right;rw[hx,hj]
 refine⟨_,_,_,_,G,rfl,⟨rfl,rfl,rfl⟩,htup,⟨fun k hk=>Nat.lt_of_lt_of_le (hr.amb_lt k hk) hsz,Nat.le_trans hr.B_le hsz,hr.dom,fun b blk hb=>?_,fun b b' k k' c' hb hb' _ _=>?_,fun b k c' hb hc'=>?_,fun b c' hc'=>Nat.lt_of_lt_of_le (hr.lt b c' hc') hsz,fun b k hb=>?_,hr.gl.to (fun _ h=>h) hkeep⟩,
  ⟨rfl,rfl,rfl,hsz,rfl,fun _ h=>h,hkeep,fun k m hm=>?_,fun _ _ _ h=>h,fun k hk hn=>sw_other n _ os hk (fun e=>hn 0 (e▸hι)),fun k hk _=>.inl hk,fun b k hk _=>⟨b,hk⟩⟩,Nat.le_refl _⟩
 ·rw[hget_cons]at hb
  split at hb
  ·rename_i e
   subst e
   cases hb
   refine⟨fun x hx=>?_,.inr ⟨c,_,hι,hat,?_,fun he=>?_,hfr,fun j v hj=>?_,fun j u hu=>?_⟩⟩
   ·obtain⟨p,_,rfl⟩:=List.mem_map.1 hx;rfl
   ·rw[hcs,flatP_len,sortPs_len,← flatP_len];exact hle
   ·rw[hcs,flatP_len,sortPs_len,← flatP_len];exact hex he
   ·obtain⟨hj',hvr⟩:=flatP _ j v hj
    rw[sortPs_len]at hj'
    have hlt:j < cs.size:=by rw[flatP_len]at hle;omega
    obtain⟨x,hx⟩:∃x,(Go.Sort.putCells id 0 (Go.Sort.flatK valP 2 (sortPs l).toArray) cs)[j]? = some x:=⟨_,Array.getElem?_eq_getElem (by rw[hcs];exact hlt)⟩
    have hxe:x=(valP ((sortPs l).toArray[j / 2]!))[j % 2]!:=by
     simp only[Go.Sort.putCells,Array.getElem?_mapIdx,Option.map_eq_some_iff]at hx
     obtain⟨y,hy,hx⟩:=hx
     have hj2:j < (sortPs l).toArray.size * 2:=by simpa[sortPs_len]using hj'
     rw[if_pos ⟨Nat.zero_le _,by rw[Go.Sort.size_flatK,Nat.zero_add];exact hj2⟩,Nat.sub_zero,Go.Sort.get_flatK _ _ _ _ hj2]at hx
     exact hx.symm
    exact⟨x,hx,by rw[hxe];exact oneP _ _,(hvr _ _ _).2 hxe⟩
   ·rcases hgot j u hu with⟨_,rfl⟩|h
    ·exact oneP _ _
    ·exact hone j u h
  ·simp[hget]at hb
 ·rw[hget_cons]at hb hb'
  split at hb
  ·split at hb'
   ·omega
   ·simp[hget]at hb'
  ·simp[hget]at hb
 ·rw[hget_cons]at hb
  split at hb
  ·rename_i e
   subst e
   exact hr.apart 0 _ c' rfl hc'
  ·simp[hget]at hb
 ·rw[hget_cons]at hb
  split at hb
  ·omega
  ·simp[hget]at hb
 ·by_cases e:k=c
  ·subst e
   unfold csz at hm ⊢
   rw[hat]
   rw[hh]at hm
   simpa[hcs]using hm
  ·have hlt:k < w.heap.size:=by
    unfold csz at hm
    split at hm
    ·rename_i e;exact(Array.getElem?_eq_some_iff.1 e).1
    ·cases hm
   unfold csz at hm ⊢
   rw[sw_other n _ os hlt e]
   exact hm
end
section
open Go.Proofs.Tryz (prog)
attribute [local irreducible] CallV RoundV aggK
def ddS (ds:List Prefix) (p:Prefix):List Prefix:=if prefOk p then(if p∈ds then ds else ds ++ [p])else ds
def dd (l:List Prefix):List Prefix:=l.foldl ddS []
theorem dd_succ {l:List Prefix} {i:Nat} (h:i < l.length):dd (l.take (i + 1))=ddS (dd (l.take i)) l[i]:=by
 unfold dd
 rw[List.take_succ_eq_append_getElem h,List.foldl_append]
 rfl
theorem ddS_len (ds:List Prefix) (p:Prefix):(ddS ds p).length≤ds.length + 1:=by
 unfold ddS
 split
 ·split<;>simp
 ·omega
theorem dd_len (l:List Prefix):(dd l).length≤l.length:=by
 have key:∀(l acc:List Prefix),(l.foldl ddS acc).length≤acc.length + l.length:=by
  intro l
  induction l with
  | nil=>intro acc;simp
  | cons p l ih=>
   intro acc
   have:=ih (ddS acc p)
   have:=ddS_len acc p
   simp only[List.foldl_cons,List.length_cons]
   omega
 have:=key l []
 simpa[dd]using this
def esP (ds:List Prefix):List (V × V):=ds.map fun p=>(encP p,.bool true)
theorem esP_free (ds:List Prefix):∀kv∈esP ds,Free kv.1∧Free kv.2:=by
 intro kv h
 obtain⟨p,_,rfl⟩:=List.mem_map.1 h
 exact⟨encP_free p,.bool⟩
theorem esP_keys (ds:List Prefix):KeysV tab 31 (esP ds):=by
 intro kv h
 obtain⟨p,_,rfl⟩:=List.mem_map.1 h
 exact keyP p
theorem encP_inj {p q:Prefix} (h:encP p=encP q):p=q:=by
 simp only[encP,cellsP,V.agg.injEq,List.cons.injEq,V.int.injEq,true_and,and_true]at h
 exact pfx_eq (by omega) (by omega)
theorem set_self {α:Type}:∀{l:List α} {i:Nat} {x:α},l[i]? = some x→l.set i x=l
 | [],_,_,h=>by simp at h
 | a :: l,0,x,h=>by simp at h;subst h;rfl
 | a :: l,i + 1,x,h=>by simp at h;simp[set_self h]
theorem put_ok (ds:List Prefix) (p:Prefix) (hp:prefOk p=true):∃r,MPos (esP ds) (encP p) r∧mput (esP ds) (encP p) (.bool true) r=esP (ddS ds p):=by
 by_cases h:p∈ds
 ·obtain⟨i,hi⟩:=List.getElem?_of_mem h
  have hi':(esP ds)[i]? = some (encP p,.bool true):=by simp[esP,hi]
  exact⟨some i,⟨_,hi'⟩,by simp only[mput,set_self hi'];rw[ddS,if_pos hp,if_pos h]⟩
 ·refine⟨none,fun kv hkv e=>?_,?_⟩
  ·obtain⟨q,hq,rfl⟩:=List.mem_map.1 hkv
   exact h (encP_inj e▸hq)
  ·rw[ddS,if_pos hp,if_neg h]
   simp[mput,esP]
theorem sortPs_sorted (l:List Prefix):(sortPs l).Pairwise (fun x y=>pkey x≤pkey y):=by
 have:=List.pairwise_mergeSort (le:=fun x y:Prefix=>!(ltOf cmpP) y x) (fun a b c h1 h2=>by simp[ltP]at *;omega) (fun a b=>by simp[ltP];omega) l
 exact this.imp fun h=>by simpa[ltP]using h
theorem sorted_eq:∀{a b:List Prefix},a.Perm b→a.Pairwise (fun x y=>pkey x≤pkey y)→b.Pairwise (fun x y=>pkey x≤pkey y)→a=b
 | [],b,h,_,_=>by simpa using h.length_eq.symm
 | x :: a,[],h,_,_=>by have:=h.length_eq;simp at this
 | x :: a,y :: b,h,h1,h2=>by
  rw[List.pairwise_cons]at h1 h2
  have e:x=y:=by
   have m1:x∈y :: b:=h.mem_iff.1 (by simp)
   have m2:y∈x :: a:=h.mem_iff.2 (by simp)
   rcases List.mem_cons.1 m1 with e|m1
   ·exact e
   ·rcases List.mem_cons.1 m2 with e|m2
    ·exact e.symm
    ·have q1:=h1.1 y m2
     have q2:=h2.1 x m1
     exact pkey_inj (by omega)
  subst e
  rw[sorted_eq (List.Perm.cons_inv h) h1.2 h2.2]
theorem sortPs_perm {a b:List Prefix} (h:a.Perm b):sortPs a=sortPs b:=
 sorted_eq (((List.mergeSort_perm a _).trans h).trans (List.mergeSort_perm b _).symm) (sortPs_sorted a) (sortPs_sorted b)
theorem esP_erase:∀(l:List Prefix) (k:Nat),(esP l).eraseIdx k=esP (l.eraseIdx k)
 | [],_=>by simp[esP]
 | p :: l,0=>by simp[esP]
 | p :: l,k + 1=>by simpa[esP]using esP_erase l k
theorem perm_erase:∀{l:List Prefix} {k:Nat} {p:Prefix},l[k]? = some p→(p :: l.eraseIdx k).Perm l
 | [],_,_,h=>by simp at h
 | a :: l,0,p,h=>by simp at h;subst h;simp
 | a :: l,k + 1,p,h=>by
  have h:l[k]? = some p:=by simpa using h
  rw[List.eraseIdx_cons_succ]
  exact(List.Perm.swap a p _).trans ((perm_erase h).cons a)
theorem perm_step {xs rest:List Prefix} {k:Nat} {p:Prefix} (h:rest[k]? = some p):((xs ++ [p])++ rest.eraseIdx k).Perm (xs ++ rest):=by
 rw[List.append_assoc]
 refine List.Perm.append_left xs ?_
 exact perm_erase h
theorem sort_ok (fr:Bool) (l:List Prefix) (hb:l.length≤1000):PCon prog 109 [encPs fr l] (encPs true (sortPs (dd l))):=by
 refine callV_of (fn:=Go.Proofs.Tryz.f109) (body:=_) tab_ok mixed rfl rfl (by decide) (by simp[Go.Proofs.Tryz.f109]) ?_
 conv=>whnf
 intro hl
 have hl:l.length≤maxLen:=by simpa[gd]using hl
 conv=>whnf
 refine vcg_loop tab_ok mixed (fun i:{i:Nat // i≤l.length}=>⟨[(3,.mapp 0),(7,encPs fr l),(8,cI l.length),(9,cI i.1)],[(0,some (.map (esP (dd (l.take i.1)))))],1⟩) (fun i=>l.length - i.1) ⟨0,by omega⟩ (Wk.of id [] ⟨.mapp rfl (by omega),.free (encPs_free _ _),.int_of (by simp),.int_of rfl,trivial⟩ (LeH.of ⟨⟨by omega,.inl ⟨by simp,_,rfl,LeB.map rfl (by simp)⟩⟩,trivial⟩ (fun _ _ _ _ h=>h) (fun _ _=>rfl) (by omega) (by simp))) (fun i=>?_)
 obtain⟨i,hi⟩:=i
 conv=>whnf
 split
 ·rename_i hc
  have hc:i < l.length:=by simpa using hc
  conv=>whnf
  refine ixK (idxP hc) ?_
  conv=>whnf
  refine callV_pure (uRight_ok l[i]) ⟨.free (encP_free _),trivial⟩ ?_
  conv=>whnf
  split
  ·rename_i hp
   conv=>whnf
   refine⟨esP_keys _,keyP _,?_⟩
   obtain⟨r,hr,hput⟩:=put_ok (dd (l.take i)) l[i] hp
   refine⟨r,hr,?_⟩
   have hput:mput (esP (dd (l.take i))) (encP l[i]) (.bool true) r=esP (dd (l.take (i + 1))):=by rw[dd_succ hc];exact hput
   conv=>whnf
   exact⟨⟨i + 1,by omega⟩,Wk.of id [] ⟨.mapp rfl (by omega),.free (encPs_free _ _),.int_of rfl,.int_of (wrap64_succ hc hl),trivial⟩ (LeH.of ⟨⟨by omega,.inl ⟨by simp,_,rfl,LeB.map hput (by have:=esP_free (dd (l.take (i + 1)));rw[← hput]at this;exact this)⟩⟩,trivial⟩ (fun _ _ _ _ h=>h) (fun _ _=>rfl) (by omega) (by simp)),by simp only;omega⟩
  ·rename_i hp
   conv=>whnf
   refine⟨⟨i + 1,by omega⟩,Wk.of id [] ⟨.mapp rfl (by omega),.free (encPs_free _ _),.int_of rfl,.int_of (wrap64_succ hc hl),trivial⟩ (LeH.of ⟨⟨by omega,.inl ⟨by simp,_,rfl,LeB.map ?_ (esP_free _)⟩⟩,trivial⟩ (fun _ _ _ _ h=>h) (fun _ _=>rfl) (by omega) (by simp)),by simp only;omega⟩
   rw[dd_succ hc,ddS,if_neg (by simpa using hp)]
 ·rename_i hc
  have hc:i=l.length:=by simp at hc;omega
  subst hc
  conv=>whnf
  refine callV_freeze (args':=[.imap false (esP (dd l))]) [0] (h':=[]) (LeH.nil (by omega) (fun _ _=>rfl) (one_none rfl)) ⟨.freezeM (by simp) rfl (by simp only[List.take_length]) (esP_free _),trivial⟩ ?_
  refine callV_of (fn:=Go.Proofs.Tryz.f151) (body:=_) tab_ok mixed rfl rfl (by decide) (by simp[Go.Proofs.Tryz.f151]) ?_
  conv=>whnf
  refine⟨_,_,_,Ends.here,?_⟩
  conv=>whnf
  refine callV_of (fn:=Go.Proofs.Tryz.f95) (body:=_) tab_ok mixed rfl rfl (by decide) (by simp[Go.Proofs.Tryz.f95]) ?_
  conv=>whnf
  refine callV_of (fn:=Go.Proofs.Tryz.f142) (body:=_) tab_ok mixed rfl rfl (by decide) (by simp[Go.Proofs.Tryz.f142]) ?_
  conv=>whnf
  refine callV_of (fn:=Go.Proofs.Tryz.f172) (body:=_) tab_ok mixed rfl rfl (by decide) (by simp[Go.Proofs.Tryz.f172]) ?_
  conv=>whnf
  refine callV_loop [(2,.ptr 2 0)] ⟨rfl,trivial⟩ fun asg' body' hasg hbody=>?_
  refine callV_of (fn:=Go.Proofs.Tryz.f179) (body:=_) tab_ok mixed rfl rfl (by decide) (by simp[Go.Proofs.Tryz.f179]) ?_
  conv=>whnf
  refine vcg_loop tab_ok mixed (fun p:{p:List Prefix × List Prefix // (p.1 ++ p.2).Perm (dd l)}=>⟨[(0,.yld 3),(5,.ptr 4 0)],[(3,some (.loop 13 [(2,.ptr 2 0)] [7] asg' body' .ready none)),(2,some (.var true 84 [.osl 5 2 0 p.1.1.length])),(4,some (.iter none (esP p.1.2))),(5,some (.arr true false 31 2 (rowsP p.1.1)))],6⟩) (fun p=>p.1.2.length) ⟨([],dd l),by simp⟩ ?_ (fun p=>?_)
  ·refine Wk.of id [] ⟨.yld rfl (by omega),.ptr rfl (by omega),trivial⟩ (LeH.of ⟨⟨by omega,.inl ⟨by simp,_,rfl,rfl,rfl,rfl,rfl,rfl,rfl,.ptr rfl (by omega),trivial⟩⟩,⟨by omega,.inl ⟨by simp,_,rfl,id,rfl,.osl0,trivial⟩⟩,⟨by omega,.inl ⟨by simp,_,rfl,LeB.iter rfl (esP_free _)⟩⟩,⟨by omega,.inr ⟨by simp,_,_,_,_,rfl⟩⟩,trivial⟩ (fun _ _ _ _ h=>h) (fun _ _=>rfl) (by omega) (by simp))
  obtain⟨⟨xs,rest⟩,hp⟩:=p
  conv=>whnf
  refine⟨fun h0=>?_,fun k kv hk=>?_⟩
  ·have h0:rest=[]:=by simpa[esP]using h0
   subst h0
   rw[List.append_nil]at hp
   conv=>whnf
   refine⟨_,_,_,Ends.here,?_⟩
   conv=>whnf
   refine⟨_,_,_,Ends.here,?_⟩
   conv=>whnf
   refine⟨_,_,_,Ends.here,?_⟩
   conv=>whnf
   have hxl:xs.length≤1000:=by
    have h1:xs.length=(dd l).length:=by have:=hp.length_eq;simpa using this
    have h2:=dd_len l
    omega
   refine callV_frame (nx:=6) (n0:=1) (renOf [(0,5)]) (sortF_ok true false xs (by omega)) (by repeat' (first|exact True.intro|exact .osl_of rfl (by omega) rfl|exact .free (.fn (by simp) (by simp))|exact LeB.arrE rfl (rowsP_free _) id id|exact .A|exact LeL.fr rfl|refine⟨?_,?_⟩)) (LeH.of (by repeat' (first|exact LHa|exact .osl_of rfl (by omega) rfl|exact .free (.fn (by simp) (by simp))|exact LeB.arrE rfl (rowsP_free _) id id|exact .A|exact LeL.fr rfl|exact LHb|refine Or.inl ⟨by simp,_,rfl,?_⟩|exact Or.inr ⟨by simp,_,_,_,_,rfl⟩|refine⟨rfl,rfl,rfl,rfl,rfl,rfl,?_⟩|refine⟨?_,?_⟩)) (show ∀b∈([0]:List Nat),∀b'∈([0]:List Nat),(renOf [(0,5)]) b=(renOf [(0,5)]) b'→b=b' by decide) (fun _ h=>by omega) (by omega) (by simp)) (fun b hb=>by match b,hb with|0,_=>exact ne_none_of rfl) (by decide) ?_
   rintro v h' nx' ⟨rfl,rfl,rfl⟩ _
   refine⟨.tup [],[(5,some (.arr true false 31 2 (rowsP (sortPs xs))))],.free (.tup (by simp)),(by repeat' (first|exact True.intro|exact Or.inr ⟨by decide,rfl⟩|exact Or.inl ⟨0,rfl,by omega,_,rfl,RenB.arr (rowsP_free _)⟩|refine⟨?_,?_⟩)),?_⟩
   conv=>whnf
   refine⟨_,_,_,Ends.here,?_⟩
   conv=>whnf
   have hs:sortPs xs=sortPs (dd l):=sortPs_perm (by simpa using hp)
   exact Ends.pure [5] (LeV.freeze_of (by simp) rfl (by simp[sortPs_len]) (rowsP_free _) (by rw[hs];exact List.take_of_length_le (by simp[sortPs_len,← hs]))) (one_none rfl)
  ·obtain⟨p,hpk,rfl⟩:∃p,rest[k]? = some p∧kv=(encP p,.bool true):=by
    simp only[esP,List.getElem?_map,Option.map_eq_some_iff]at hk
    obtain⟨p,h1,h2⟩:=hk
    exact⟨p,h1,h2.symm⟩
   conv=>whnf
   subst hasg hbody
   refine roundV_of tab_ok mixed rfl (by simp) (show 3 < 7 by omega) ?_
   conv=>whnf
   have hlen:xs.length + 1≤1000:=by
    have h1:=hp.length_eq
    have h2:=dd_len l
    have h3:k < rest.length:=(List.getElem?_eq_some_iff.1 hpk).1
    simp only[List.length_append]at h1
    omega
   refine⟨rfl,by first|rfl|(simp;done),by first|rfl|(simp;done),⟨rfl,rfl,rfl,rfl,by decide⟩,by simp[rowsP],⟨by simp[tab,tabOf,nth];omega,by simp;omega⟩,?_⟩
   conv=>whnf
   refine⟨rfl,?_⟩
   conv=>whnf
   have hperm:((xs ++ [p])++ rest.eraseIdx k).Perm (dd l):=(perm_step hpk).trans hp
   refine⟨⟨(xs ++ [p],rest.eraseIdx k),hperm⟩,Wk.of (renOf [(5,9)]) [] ⟨.yld rfl (by omega),.ptr rfl (by omega),trivial⟩ (LeH.of ⟨⟨by omega,.inl ⟨by simp,_,rfl,rfl,rfl,rfl,rfl,rfl,rfl,.ptr rfl (by omega),trivial⟩⟩,⟨by omega,.inl ⟨by simp,_,rfl,id,rfl,.osl_of rfl (by omega) (by simp),trivial⟩⟩,⟨by omega,.inl ⟨by simp,_,rfl,LeB.iter (esP_erase rest k) (fun kv h=>esP_free _ kv (List.mem_of_mem_eraseIdx h))⟩⟩,⟨by omega,.inl ⟨by simp,_,rfl,LeB.arrE (by simp[rowsP];exact⟨List.take_of_length_le (by simp),rfl⟩) (fun x hx v hv=>by
    rcases List.mem_append.1 hx with h|h
    ·exact rowsP_free xs x (List.mem_of_mem_take h) v hv
    ·simp at h;subst h;simp at hv;rcases hv with rfl|rfl<;>exact .int) id id⟩⟩,trivial⟩ (show ∀b∈([3,2,4,5]:List Nat),∀b'∈([3,2,4,5]:List Nat),renOf [(5,9)] b=renOf [(5,9)] b'→b=b' by decide) (show ∀b,b < 4→renOf [(5,9)] b=b by decide) (by omega) (by simp)),?_⟩
   show(rest.eraseIdx k).length < rest.length
   have:=(List.getElem?_eq_some_iff.1 hpk).1
   rw[List.length_eraseIdx]
   split<;>omega
end
section
open Go.Proofs.Tryz (prog)
attribute [local irreducible] CallV RoundV aggK
theorem LeB.arrY {h:Heap} {nx nx':Nat} {ρ:Nat→Nat} {Z:List Nat} {fr fr' ex ex':Bool} {ty sz:Nat} {xs ys:List (List V)} (e:xs=ys) (hf:∀x∈ys,∀v∈x,Free v) (h1:fr'=true→fr=true) (h2:ex'=true→ex=true):LeB h nx ρ nx' Z (.arr fr ex ty sz xs) (.arr fr' ex' ty sz ys):=by
 subst e;exact LeB.arrE rfl hf h1 h2
def stepW (p:Prefix) (s:List Prefix × Bool) (x:Prefix):List Prefix × Bool:=if s.2=false∧0 < cmpP x p then(s.1 ++ [p]++ [x],true)else(s.1 ++ [x],s.2)
def foldW (l:List Prefix) (p:Prefix):List Prefix × Bool:=l.foldl (stepW p) ([],false)
def withP (l:List Prefix) (p:Prefix):List Prefix:=if p∈l then l else if(foldW l p).2 then(foldW l p).1 else(foldW l p).1 ++ [p]
theorem foldW_succ {l:List Prefix} {p:Prefix} {i:Nat} (h:i < l.length):foldW (l.take (i + 1)) p=stepW p (foldW (l.take i) p) l[i]:=by
 unfold foldW
 rw[List.take_succ_eq_append_getElem h,List.foldl_append]
 rfl
theorem foldW_len (l:List Prefix) (p:Prefix):(foldW l p).1.length≤2 * l.length:=by
 have key:∀(l:List Prefix) (s:List Prefix × Bool),(l.foldl (stepW p) s).1.length≤s.1.length + 2 * l.length:=by
  intro l
  induction l with
  | nil=>intro s;simp
  | cons x l ih=>
   intro s
   have h1:=ih (stepW p s x)
   have h2:(stepW p s x).1.length≤s.1.length + 2:=by
    unfold stepW
    split<;>simp
   rw[List.foldl_cons,List.length_cons]
   omega
 have:=key l ([],false)
 simpa[foldW]using this
theorem with_ok (fr:Bool) (l:List Prefix) (p:Prefix) (hb:l.length≤1000):PCon prog 137 [encPs fr l,encP p] (encPs fr (withP l p)):=by
 refine callV_of (fn:=Go.Proofs.Tryz.f137) (body:=_) tab_ok mixed rfl rfl (by decide) (by simp[Go.Proofs.Tryz.f137]) ?_
 conv=>whnf
 refine vcg_loop tab_ok mixed (fun i:{i:Nat // i≤l.length∧p ∉ l.take i}=>⟨[(0,encPs fr l),(3,.ptr 0 0),(5,.osl 1 2 0 (foldW (l.take i.1) p).1.length),(6,.bool (foldW (l.take i.1) p).2),(7,cI i.1)],[(0,some (.var true 31 (cellsP p))),(1,some (.arr true false 31 2 (rowsP (foldW (l.take i.1) p).1)))],2⟩) (fun i=>l.length - i.1) ⟨0,by omega,by simp⟩ ?_ (fun i=>?_)
 ·refine Wk.of id [] ⟨.free (encPs_free _ _),.ptr rfl (by omega),.osl0,.bool_of rfl,.int_of rfl,trivial⟩ (LeH.of ⟨⟨by omega,.inl ⟨by simp,_,rfl,id,rfl,.freeV (cellsP_free p)⟩⟩,⟨by omega,.inr ⟨by simp,_,_,_,_,rfl⟩⟩,trivial⟩ (fun _ _ _ _ h=>h) (fun _ _=>rfl) (by omega) (by simp))
 obtain⟨i,hi,hni⟩:=i
 have hfl:=foldW_len (l.take i) p
 rw[List.length_take,Nat.min_eq_left hi]at hfl
 conv=>whnf
 intro hl
 have hl:l.length≤maxLen:=by simpa[gd]using hl
 conv=>whnf
 split
 ·rename_i hc
  have hc:i < l.length:=by simpa using hc
  conv=>whnf
  refine ixK (idxP hc) ?_
  conv=>whnf
  refine eqlP l[i] p ?_
  conv=>whnf
  refine⟨by kernel_rfl,?_⟩
  conv=>whnf
  split
  ·rename_i h1
   have h1:l[i]=p:=by simpa using h1
   conv=>whnf
   exact(Ends.pure [] (by repeat' (first|exact True.intro|exact LeV.sl_of (by rw[withP,if_pos (h1▸List.getElem_mem hc)]) (encPs_free _ _)|exact .A|exact LeL.fr rfl|refine .tupL ?_|refine .aggL ?_|refine⟨?_,?_⟩)) (by simp))
  ·rename_i h1
   have h1:l[i] ≠ p:=by simpa using h1
   have hn1:p ∉ l.take (i + 1):=by
    rw[List.take_succ_eq_append_getElem hc]
    simp only[List.mem_append,List.mem_singleton,not_or]
    exact⟨hni,fun e=>h1 e.symm⟩
   have hst:=foldW_succ (p:=p) hc
   conv=>whnf
   cases ht:(foldW (l.take i) p).2 with
   | true=>
    rw[stepW,if_neg (by simp[ht]),ht]at hst
    conv=>whnf
    refine⟨by kernel_rfl,?_⟩
    conv=>whnf
    refine ixK (idxP hc) ?_
    conv=>whnf
    refine⟨rfl,by first|rfl|(simp;done),by first|rfl|decide|(simp;done),by simp[rowsP],⟨by simp[tab,tabOf,nth];omega,by simp;omega⟩,?_⟩
    conv=>whnf
    exact⟨⟨i + 1,by omega,hn1⟩,Wk.of (renOf [(1,3)]) [] ⟨.free (encPs_free _ _),.ptr rfl (by omega),.osl_of rfl (by omega) (by rw[hst];simp),.bool_of (by rw[hst]),.int_of (wrap64_succ hc hl),trivial⟩ (LeH.of ⟨⟨by omega,.inl ⟨by simp,_,rfl,id,rfl,.freeV (cellsP_free p)⟩⟩,⟨by omega,.inl ⟨by simp,_,rfl,LeB.arrY (ys:=rowsP (foldW (l.take (i + 1)) p).1) (by rw[hst];simp[rowsP,List.take_of_length_le];first|rfl|exact⟨rfl,rfl⟩) (rowsP_free _) id id⟩⟩,trivial⟩ (show ∀b∈([0,1]:List Nat),∀b'∈([0,1]:List Nat),renOf [(1,3)] b=renOf [(1,3)] b'→b=b' by decide) (fun _ h=>by omega) (by omega) (by simp)),by simp only;omega⟩
   | false=>
    conv=>whnf
    refine ixK (idxP hc) ?_
    conv=>whnf
    have hcmp:=refCompare_ok l[i] p
    refine⟨_,[],fun h nx _=>pureV_pure hcmp ⟨.free (encP_free _),.free (encP_free _),trivial⟩,by simp,?_⟩
    conv=>whnf
    refine⟨by kernel_rfl,?_⟩
    conv=>whnf
    split
    ·rename_i hg
     have hg:0 < cmpP l[i] p:=by simpa using hg
     rw[stepW,if_pos ⟨ht,hg⟩]at hst
     conv=>whnf
     refine⟨rfl,by first|rfl|(simp;done),by first|rfl|decide|(simp;done),by simp[rowsP],⟨by simp[tab,tabOf,nth];omega,by simp;omega⟩,?_⟩
     conv=>whnf
     refine ixK (idxP hc) ?_
     conv=>whnf
     refine⟨rfl,by first|rfl|(simp;done),by first|rfl|decide|(simp;done),by simp[rowsP],⟨by simp[tab,tabOf,nth];omega,by simp;omega⟩,?_⟩
     conv=>whnf
     exact⟨⟨i + 1,by omega,hn1⟩,Wk.of (renOf [(1,5)]) [] ⟨.free (encPs_free _ _),.ptr rfl (by omega),.osl_of rfl (by omega) (by rw[hst];simp),.bool_of (by rw[hst]),.int_of (wrap64_succ hc hl),trivial⟩ (LeH.of ⟨⟨by omega,.inl ⟨by simp,_,rfl,id,rfl,.freeV (cellsP_free p)⟩⟩,⟨by omega,.inl ⟨by simp,_,rfl,LeB.arrY (ys:=rowsP (foldW (l.take (i + 1)) p).1) (by rw[hst];simp[rowsP,List.take_of_length_le];first|rfl|exact⟨rfl,rfl⟩) (rowsP_free _) id id⟩⟩,trivial⟩ (show ∀b∈([0,1]:List Nat),∀b'∈([0,1]:List Nat),renOf [(1,5)] b=renOf [(1,5)] b'→b=b' by decide) (fun _ h=>by omega) (by omega) (by simp)),by simp only;omega⟩
    ·rename_i hg
     have hg:¬ 0 < cmpP l[i] p:=by simpa using hg
     rw[stepW,if_neg (fun h=>hg h.2),ht]at hst
     conv=>whnf
     refine ixK (idxP hc) ?_
     conv=>whnf
     refine⟨rfl,by first|rfl|(simp;done),by first|rfl|decide|(simp;done),by simp[rowsP],⟨by simp[tab,tabOf,nth];omega,by simp;omega⟩,?_⟩
     conv=>whnf
     exact⟨⟨i + 1,by omega,hn1⟩,Wk.of (renOf [(1,3)]) [] ⟨.free (encPs_free _ _),.ptr rfl (by omega),.osl_of rfl (by omega) (by rw[hst];simp),.bool_of (by rw[hst]),.int_of (wrap64_succ hc hl),trivial⟩ (LeH.of ⟨⟨by omega,.inl ⟨by simp,_,rfl,id,rfl,.freeV (cellsP_free p)⟩⟩,⟨by omega,.inl ⟨by simp,_,rfl,LeB.arrY (ys:=rowsP (foldW (l.take (i + 1)) p).1) (by rw[hst];simp[rowsP,List.take_of_length_le];first|rfl|exact⟨rfl,rfl⟩) (rowsP_free _) id id⟩⟩,trivial⟩ (show ∀b∈([0,1]:List Nat),∀b'∈([0,1]:List Nat),renOf [(1,3)] b=renOf [(1,3)] b'→b=b' by decide) (fun _ h=>by omega) (by omega) (by simp)),by simp only;omega⟩
 ·rename_i hc
  have hc:i=l.length:=by simp at hc;omega
  subst hc
  rw[List.take_length]at hni
  have e0:l.take l.length=l:=List.take_length
  conv=>whnf
  cases ht:(foldW (l.take l.length) p).2 with
  | true=>
   conv=>whnf
   refine Ends.pure [1] (LeV.sl_fr (LeV.freeze_of (by simp) rfl (by simp) (rowsP_free _) ?_)) (one_none rfl)
   rw[withP,if_neg hni]
   rw[e0]at ht ⊢
   rw[if_pos ht]
   exact List.take_of_length_le (by simp[e0])
  | false=>
   conv=>whnf
   have hfl2:=foldW_len l p
   refine⟨rfl,by first|rfl|(simp;done),by first|rfl|decide|(simp;done),by simp[rowsP],⟨by simp[tab,tabOf,nth,e0];omega,by simp[e0];omega⟩,?_⟩
   conv=>whnf
   refine Ends.pure [3] (LeV.sl_fr (LeV.freeze_of (ys:=rowsP (withP l p)) (by simp) rfl (by simp) (fun x hx v hv=>?_) ?_)) (one_none rfl)
   ·rcases List.mem_append.1 hx with h|h
    ·exact rowsP_free _ x (List.mem_of_mem_take h) v hv
    ·simp at h;subst h;simp at hv;rcases hv with rfl|rfl<;>exact .int
   ·rw[withP,if_neg hni]
    rw[e0]at ht
    rw[ht]
    simp[rowsP,e0,List.take_of_length_le]
    try rfl
end
section
open Go.Proofs.Tryz (prog)
attribute [local irreducible] CallV RoundV aggK
theorem cmpP_gt (p q:Prefix):0 < cmpP p q↔pkey q < pkey p:=by
 have h1:=p.len.toNat_lt
 have h2:=q.len.toNat_lt
 rw[cmpP_def]
 unfold pkey
 repeat' split
 all_goals first|(constructor<;>intro _<;>omega)
def insP (p:Prefix):List Prefix→List Prefix
 | []=>[p]
 | x :: l=>if 0 < cmpP x p then p :: x :: l else x :: insP p l
theorem fold_true (p:Prefix):∀(l acc:List Prefix),l.foldl (stepW p) (acc,true)=(acc ++ l,true)
 | [],acc=>by simp
 | x :: l,acc=>by
  rw[List.foldl_cons,show stepW p (acc,true) x=(acc ++ [x],true)by simp[stepW],fold_true p l]
  simp
theorem fold_ins (p:Prefix):∀(l acc:List Prefix),(if(l.foldl (stepW p) (acc,false)).2 then(l.foldl (stepW p) (acc,false)).1 else(l.foldl (stepW p) (acc,false)).1 ++ [p])=acc ++ insP p l
 | [],acc=>by simp[insP]
 | x :: l,acc=>by
  rw[List.foldl_cons]
  by_cases h:0 < cmpP x p
  ·rw[show stepW p (acc,false) x=(acc ++ [p]++ [x],true)by simp[stepW,h],fold_true]
   simp[insP,h]
  ·rw[show stepW p (acc,false) x=(acc ++ [x],false)by simp[stepW,h],fold_ins p l]
   simp[insP,h]
theorem withP_ins {l:List Prefix} {p:Prefix} (h:p ∉ l):withP l p=insP p l:=by
 rw[withP,if_neg h]
 exact fold_ins p l []
theorem insP_perm (p:Prefix):∀l:List Prefix,(insP p l).Perm (p :: l)
 | []=>by simp[insP]
 | x :: l=>by
  unfold insP
  split
  ·exact List.Perm.refl _
  ·exact((insP_perm p l).cons x).trans (List.Perm.swap p x l)
theorem insP_sorted (p:Prefix):∀{l:List Prefix},l.Pairwise (fun x y=>pkey x≤pkey y)→(insP p l).Pairwise (fun x y=>pkey x≤pkey y)
 | [],_=>by simp[insP]
 | x :: l,h=>by
  unfold insP
  rw[List.pairwise_cons]at h
  split
  ·rename_i hc
   rw[cmpP_gt]at hc
   refine List.pairwise_cons.2 ⟨fun y hy=>?_,List.pairwise_cons.2 h⟩
   rcases List.mem_cons.1 hy with rfl|hy
   ·omega
   ·have:=h.1 y hy;omega
  ·rename_i hc
   rw[cmpP_gt]at hc
   refine List.pairwise_cons.2 ⟨fun y hy=>?_,insP_sorted p h.2⟩
   rcases List.mem_cons.1 ((insP_perm p l).mem_iff.1 hy)with rfl|hy
   ·omega
   ·exact h.1 y hy
theorem mem_sortPs {l:List Prefix} {p:Prefix}:p∈sortPs l↔p∈l:=(List.mergeSort_perm l _).mem_iff
theorem with_sort (ds:List Prefix) (p:Prefix):withP (sortPs ds) p=sortPs (if p∈ds then ds else ds ++ [p]):=by
 by_cases h:p∈ds
 ·rw[if_pos h,withP,if_pos (mem_sortPs.2 h)]
 ·rw[if_neg h,withP_ins (fun h'=>h (mem_sortPs.1 h'))]
  refine sorted_eq ?_ (insP_sorted p (sortPs_sorted ds)) (sortPs_sorted _)
  refine(insP_perm p _).trans (((List.mergeSort_perm ds _).cons p).trans ?_)
  exact(List.perm_append_singleton p ds).symm.trans (List.mergeSort_perm (ds ++ [p]) _).symm
theorem refSort_ok (fr:Bool) (l:List Prefix) (hb:l.length≤1000):PCon prog 87 [encPs fr l] (encPs true (sortPs (dd l))):=by
 refine callV_of (fn:=Go.Proofs.Tryz.f87) (body:=_) tab_ok mixed rfl rfl (by decide) (by simp[Go.Proofs.Tryz.f87]) ?_
 conv=>whnf
 refine vcg_loop tab_ok mixed (fun i:{i:Nat // i≤l.length}=>⟨[(0,encPs fr l),(3,encPs true (sortPs (dd (l.take i.1)))),(4,cI i.1)],[],0⟩) (fun i=>l.length - i.1) ⟨0,by omega⟩ (Wk.of id [] ⟨.free (encPs_free _ _),?_,.int_of rfl,trivial⟩ (LeH.nil (Nat.le_refl _) (fun b h=>by omega) (by simp))) (fun i=>?_)
 ·have e:sortPs (dd (l.take 0))=[]:=by simp[dd,sortPs]
  rw[show(⟨0,_⟩:{i:Nat // i≤l.length}).1=0 from rfl,e]
  exact .snil_sl
 obtain⟨i,hi⟩:=i
 conv=>whnf
 intro hl
 have hl:l.length≤maxLen:=by simpa[gd]using hl
 conv=>whnf
 split
 ·rename_i hc
  have hc:i < l.length:=by simpa using hc
  have hw:=with_ok true (sortPs (dd (l.take i))) l[i] (by rw[sortPs_len];have:=dd_len (l.take i);simp only[List.length_take]at this;omega)
  have hd:=dd_succ hc
  have hr:=rRight_ok l[i]
  conv=>whnf
  refine ixK (idxP hc) ?_
  conv=>whnf
  refine callV_pure hr ⟨.free (encP_free _),trivial⟩ ?_
  conv=>whnf
  split
  ·rename_i hp
   conv=>whnf
   refine ixK (idxP hc) ?_
   conv=>whnf
   refine callV_pure hw ⟨.free (encPs_free _ _),.free (encP_free _),trivial⟩ ?_
   conv=>whnf
   refine⟨⟨i + 1,by omega⟩,Wk.of id [] ⟨.free (encPs_free _ _),LeV.sl_of ?_ (encPs_free _ _),.int_of (wrap64_succ hc hl),trivial⟩ (LeH.nil (Nat.le_refl _) (fun b h=>by omega) (by simp)),by simp only;omega⟩
   rw[with_sort,hd,ddS,if_pos hp]
  ·rename_i hp
   conv=>whnf
   refine⟨⟨i + 1,by omega⟩,Wk.of id [] ⟨.free (encPs_free _ _),LeV.sl_of ?_ (encPs_free _ _),.int_of (wrap64_succ hc hl),trivial⟩ (LeH.nil (Nat.le_refl _) (fun b h=>by omega) (by simp)),by simp only;omega⟩
   rw[hd,ddS,if_neg (by simpa using hp)]
 ·rename_i hc
  have hc:i=l.length:=by simp at hc;omega
  subst hc
  conv=>whnf
  exact(Ends.pure [] (by repeat' (first|exact True.intro|exact LeV.sl_of (by simp only[List.take_length]) (encPs_free _ _)|exact .A|exact LeL.fr rfl|refine .tupL ?_|refine .aggL ?_|refine⟨?_,?_⟩)) (by simp))
end
section
open Go.Proofs.Tryz (prog)
def riseOk (l:List Prefix):Prop:=∀(j:Nat) (h:j < l.length),prefOk l[j]=true∧∀h0:0 < j,pkey l[j - 1] < pkey l[j]
def riseP (l:List Prefix):Bool:=decide (sortPs (dd l)=l)
theorem strict_of_rise:∀{l:List Prefix},riseOk l→l.Pairwise (fun x y=>pkey x < pkey y)
 | [],_=>.nil
 | [x],_=>by simp
 | x :: y :: l,h=>by
  have ht:riseOk (y :: l):=fun j hj=>⟨(h (j + 1) (by simp at hj ⊢;omega)).1,fun h0=>by
   have:=(h (j + 1) (by simp at hj ⊢;omega)).2 (by omega)
   obtain⟨j',rfl⟩:∃j',j=j' + 1:=⟨j - 1,by omega⟩
   simpa using this⟩
  have hs:=strict_of_rise ht
  have h1:pkey x < pkey y:=(h 1 (by simp)).2 (by omega)
  rw[List.pairwise_cons]at hs ⊢
  refine⟨fun z hz=>?_,List.pairwise_cons.2 hs⟩
  rcases List.mem_cons.1 hz with rfl|hz
  ·exact h1
  ·have:=hs.1 z hz;omega
theorem rise_of_strict {l:List Prefix} (hr:∀p∈l,prefOk p=true) (hs:l.Pairwise (fun x y=>pkey x < pkey y)):riseOk l:=fun j h=>
 ⟨hr _ (List.getElem_mem h),fun h0=>List.pairwise_iff_getElem.1 hs (j - 1) j (by omega) h (by omega)⟩
theorem dd_mem {l:List Prefix} {p:Prefix} (h:p∈dd l):p∈l∧prefOk p=true:=by
 have key:∀(l acc:List Prefix),p∈l.foldl ddS acc→p∈acc∨(p∈l∧prefOk p=true):=by
  intro l
  induction l with
  | nil=>intro acc h;exact .inl h
  | cons x l ih=>
   intro acc h
   rcases ih _ h with h1|⟨h1,h2⟩
   ·unfold ddS at h1
    split at h1
    ·rename_i hx
     split at h1
     ·exact .inl h1
     ·rcases List.mem_append.1 h1 with h1|h1
      ·exact .inl h1
      ·obtain rfl:=List.mem_singleton.1 h1
       exact .inr ⟨by simp,hx⟩
    ·exact .inl h1
   ·exact .inr ⟨by simp[h1],h2⟩
 rcases key l [] h with h|h
 ·cases h
 ·exact h
theorem dd_nodup (l:List Prefix):(dd l).Nodup:=by
 have key:∀(l acc:List Prefix),acc.Nodup→(l.foldl ddS acc).Nodup:=by
  intro l
  induction l with
  | nil=>intro acc h;exact h
  | cons x l ih=>
   intro acc h
   refine ih _ ?_
   unfold ddS
   split
   ·split
    ·exact h
    ·rename_i hn
     rw[List.nodup_append]
     exact⟨h,by simp,fun a ha b hb e=>by simp at hb;subst hb;subst e;exact hn ha⟩
   ·exact h
 exact key l [] (by simp)
theorem dd_self {l:List Prefix} (hr:∀p∈l,prefOk p=true) (hn:l.Nodup):dd l=l:=by
 have key:∀(l acc:List Prefix),(∀p∈l,prefOk p=true)→(acc ++ l).Nodup→l.foldl ddS acc=acc ++ l:=by
  intro l
  induction l with
  | nil=>intro acc _ _;simp
  | cons x l ih=>
   intro acc hr hn
   have hx:x ∉ acc:=fun hm=>by
    rw[List.nodup_append]at hn
    exact hn.2.2 x hm x (by simp) rfl
   rw[List.foldl_cons,ddS,if_pos (hr x (by simp)),if_neg hx,ih _ (fun p hp=>hr p (by simp[hp])) (by simpa using hn)]
   simp
 exact key l [] hr (by simpa using hn)
theorem nodup_of_strict {l:List Prefix} (hs:l.Pairwise (fun x y=>pkey x < pkey y)):l.Nodup:=hs.imp fun h e=>by subst e;exact Nat.lt_irrefl _ h
theorem riseP_iff {l:List Prefix}:riseP l=true↔riseOk l:=by
 unfold riseP
 rw[decide_eq_true_eq]
 constructor
 ·intro h
  have hr:∀p∈l,prefOk p=true:=fun p hp=>by
   rw[← h]at hp
   exact(dd_mem (mem_sortPs.1 hp)).2
  have hn:l.Nodup:=by
   rw[← h]
   exact(List.mergeSort_perm (dd l) _).nodup_iff.2 (dd_nodup l)
  have hs:=sortPs_sorted (dd l)
  rw[h]at hs
  refine rise_of_strict hr ?_
  have:=List.pairwise_and_iff.2 ⟨hs,hn⟩
  exact this.imp fun⟨h1,h2⟩=>by
   rcases Nat.lt_or_ge (pkey _) (pkey _)with h|h
   ·exact h
   ·exact absurd (pkey_inj (by omega)) h2
 ·intro h
  have hs:=strict_of_rise h
  have hr:∀p∈l,prefOk p=true:=fun p hp=>by
   obtain⟨j,hj,rfl⟩:=List.getElem_of_mem hp
   exact(h j hj).1
  rw[dd_self hr (nodup_of_strict hs)]
  exact sorted_eq (List.mergeSort_perm l _) (sortPs_sorted l) (hs.imp fun h=>Nat.le_of_lt h)
end
section
open Go.Proofs.Tryz (prog)
attribute [local irreducible] CallV RoundV aggK
theorem urise_ok (fr:Bool) (l:List Prefix) (hb:l.length≤1000):PCon prog 61 [encPs fr l] (.bool (riseP l)):=by
 refine callV_of (fn:=Go.Proofs.Tryz.f61) (body:=_) tab_ok mixed rfl rfl (by decide) (by simp[Go.Proofs.Tryz.f61]) ?_
 conv=>whnf
 refine callV_pure (sort_ok fr l hb) ⟨.free (encPs_free _ _),trivial⟩ ?_
 conv=>whnf
 refine callV_pure (equalP_ok true fr (sortPs (dd l)) l) ⟨.free (encPs_free _ _),.free (encPs_free _ _),trivial⟩ ?_
 conv=>whnf
 exact(Ends.pA)
theorem any_none {l:List Prefix} {q:Prefix→Bool} {i:Nat} (hc:i < l.length) (hz:(l.take i).any q=false) (h:q l[i]=false):(l.take (i + 1)).any q=false:=by
 rw[List.take_succ_eq_append_getElem hc,List.any_append,hz]
 simpa using h
theorem indexP_ok (fr:Bool) (l:List Prefix) (p:Prefix):∃n:Int,PCon prog 153 [encPs fr l,encP p] (.int .i64 n)∧(0≤n↔l.any (fun x=>decide (p=x))=true):=by
 refine⟨if l.any (fun x=>decide (p=x))then(l.findIdx (fun x=>decide (p=x)):Nat)else -1,?_,by split<;>rename_i h<;>simp[h]⟩
 refine callV_of (fn:=Go.Proofs.Tryz.f153) (body:=_) tab_ok mixed rfl rfl (by decide) (by simp[Go.Proofs.Tryz.f153]) ?_
 conv=>whnf
 intro hl
 have hl:l.length≤maxLen:=by simpa[gd]using hl
 conv=>whnf
 refine vcg_loop tab_ok mixed (fun i:{i:Nat // i≤l.length∧(l.take i).any (fun x=>decide (p=x))=false}=>⟨[(0,encPs fr l),(3,.ptr 0 0),(7,cI l.length),(8,cI i.1)],[(0,some (.var true 31 (cellsP p)))],1⟩) (fun i=>l.length - i.1) ⟨0,by omega,by simp⟩ (Wk.of id [] ⟨.free (encPs_free _ _),.ptr rfl (by omega),.int_of (by simp),.int_of rfl,trivial⟩ (LeH.same ⟨⟨rfl,cellsP_free p,by omega⟩,trivial⟩ (by omega))) (fun i=>?_)
 obtain⟨i,hi,hz⟩:=i
 conv=>whnf
 split
 ·rename_i hc
  have hc:i < l.length:=by simpa using hc
  conv=>whnf
  refine ixK (idxP hc) ?_
  conv=>whnf
  refine eqlP p l[i] ?_
  conv=>whnf
  refine⟨by kernel_rfl,?_⟩
  conv=>whnf
  split
  ·rename_i h1
   have h1:p=l[i]:=by simpa using h1
   conv=>whnf
   refine Ends.pure [] (.int_of ?_) (by simp)
   have ha:l.any (fun x=>decide (p=x))=true:=List.any_eq_true.2 ⟨l[i],List.getElem_mem hc,by simp[h1]⟩
   rw[if_pos ha]
   congr 1
   symm
   rw[List.findIdx_eq hc]
   refine⟨by simp[h1],fun j hj=>?_⟩
   have:=List.any_eq_false.1 hz (l[j]'(by omega)) (by rw[List.mem_take_iff_getElem];exact⟨j,by omega,rfl⟩)
   simpa using this
  ·rename_i h1
   have h1:decide (p=l[i])=false:=by simpa using h1
   conv=>whnf
   exact⟨⟨i + 1,by omega,any_none hc hz h1⟩,Wk.of id [] ⟨.free (encPs_free _ _),.ptr rfl (by omega),.int_of rfl,.int_of (wrap64_succ hc hl),trivial⟩ (LeH.same ⟨⟨rfl,cellsP_free p,by omega⟩,trivial⟩ (by omega)),by simp only;omega⟩
 ·rename_i hc
  have hc:i=l.length:=by simp at hc;omega
  subst hc
  rw[List.take_length]at hz
  conv=>whnf
  refine Ends.pure [] (.int_of ?_) (by simp)
  rw[if_neg (by simp only[hz];decide)]
theorem containsP_ok (fr:Bool) (l:List Prefix) (p:Prefix):PCon prog 112 [encPs fr l,encP p] (.bool (l.any (fun x=>decide (p=x)))):=by
 obtain⟨n,hn,hiff⟩:=indexP_ok fr l p
 refine callV_of (fn:=Go.Proofs.Tryz.f112) (body:=_) tab_ok mixed rfl rfl (by decide) (by simp[Go.Proofs.Tryz.f112]) ?_
 conv=>whnf
 refine callV_pure hn ⟨.free (encPs_free _ _),.free (encP_free _),trivial⟩ ?_
 conv=>whnf
 refine(Ends.pure [] (by repeat' (first|exact True.intro|exact .bool_of (by rw[Bool.eq_iff_iff,← hiff];simp)|exact .A|exact LeL.fr rfl|refine .tupL ?_|refine .aggL ?_|refine⟨?_,?_⟩)) (by simp))
theorem indexFuncP_ok (fr:Bool) (l:List Prefix) (g:FuncId) (caps:List V) (q:Prefix→Bool) (hg:∀p,PCon prog g ([]++ [encP p]++ caps) (.bool (q p))) (hf:∀v∈caps,Free v):∃n:Int,PCon prog 152 [encPs fr l,.fn (.func g) [] caps] (.int .i64 n)∧(0≤n↔l.any q=true):=by
 refine⟨if l.any q then(l.findIdx q:Nat)else -1,?_,by split<;>rename_i h<;>simp[h]⟩
 refine callV_of (fn:=Go.Proofs.Tryz.f152) (body:=_) tab_ok mixed rfl rfl (by decide) (by simp[Go.Proofs.Tryz.f152]) ?_
 conv=>whnf
 intro hl
 have hl:l.length≤maxLen:=by simpa[gd]using hl
 conv=>whnf
 refine vcg_loop tab_ok mixed (fun i:{i:Nat // i≤l.length∧(l.take i).any q=false}=>⟨[(0,encPs fr l),(1,.fn (.func g) [] caps),(7,cI l.length),(8,cI i.1)],[],0⟩) (fun i=>l.length - i.1) ⟨0,by omega,by simp⟩ (Wk.of id [] ⟨.free (encPs_free _ _),.free (.fn (by simp) hf),.int_of (by simp),.int_of rfl,trivial⟩ (LeH.nil (Nat.le_refl _) (fun b h=>by omega) (by simp))) (fun i=>?_)
 obtain⟨i,hi,hz⟩:=i
 conv=>whnf
 split
 ·rename_i hc
  have hc:i < l.length:=by simpa using hc
  have hq:=hg l[i]
  conv=>whnf
  refine ixK (idxP hc) ?_
  conv=>whnf
  refine callV_pure hq (LeL.freeV (fun v hv=>?_)) ?_
  ·rcases List.mem_append.1 hv with h|h
   ·obtain rfl:=List.mem_singleton.1 h;exact encP_free _
   ·exact hf v h
  conv=>whnf
  split
  ·rename_i h1
   conv=>whnf
   refine Ends.pure [] (.int_of ?_) (by simp)
   have ha:l.any q=true:=List.any_eq_true.2 ⟨l[i],List.getElem_mem hc,h1⟩
   rw[if_pos ha]
   congr 1
   symm
   rw[List.findIdx_eq hc]
   refine⟨h1,fun j hj=>?_⟩
   have:=List.any_eq_false.1 hz (l[j]'(by omega)) (by rw[List.mem_take_iff_getElem];exact⟨j,by omega,rfl⟩)
   simpa using this
  ·rename_i h1
   conv=>whnf
   exact⟨⟨i + 1,by omega,any_none hc hz (by simpa using h1)⟩,Wk.of id [] ⟨.free (encPs_free _ _),.free (.fn (by simp) hf),.int_of rfl,.int_of (wrap64_succ hc hl),trivial⟩ (LeH.nil (Nat.le_refl _) (fun b h=>by omega) (by simp)),by simp only;omega⟩
 ·rename_i hc
  have hc:i=l.length:=by simp at hc;omega
  subst hc
  rw[List.take_length]at hz
  conv=>whnf
  refine Ends.pure [] (.int_of ?_) (by simp)
  rw[if_neg (by simp[hz])]
theorem containsFuncP_ok (fr:Bool) (l:List Prefix) (g:FuncId) (caps:List V) (q:Prefix→Bool) (hg:∀p,PCon prog g ([]++ [encP p]++ caps) (.bool (q p))) (hf:∀v∈caps,Free v):PCon prog 110 [encPs fr l,.fn (.func g) [] caps] (.bool (l.any q)):=by
 obtain⟨n,hn,hiff⟩:=indexFuncP_ok fr l g caps q hg hf
 refine callV_of (fn:=Go.Proofs.Tryz.f110) (body:=_) tab_ok mixed rfl rfl (by decide) (by simp[Go.Proofs.Tryz.f110]) ?_
 conv=>whnf
 refine callV_pure hn ⟨.free (encPs_free _ _),.free (.fn (by simp) hf),trivial⟩ ?_
 conv=>whnf
 refine(Ends.pure [] (by repeat' (first|exact True.intro|exact .bool_of (by rw[Bool.eq_iff_iff,← hiff];simp)|exact .A|exact LeL.fr rfl|refine .tupL ?_|refine .aggL ?_|refine⟨?_,?_⟩)) (by simp))
end
section
open Go.Proofs.Tryz (prog)
attribute [local irreducible] CallV RoundV aggK
theorem LeV.fz9 {h:Heap} {nx nx':Nat} {ρ:Nat→Nat} {Z:List Nat} {b:Nat} {fr:Bool} {ty:TypeId} {cells:List V} (hz:b∈Z) (hb:hget h b=some (.var fr ty cells)) (hf:∀v∈cells,Free v):LeV h nx ρ nx' Z (.ptr b 0) (.iptr fr cells):=LeV.freezeP (col:=0) hz hb hf
def apartP (a b:List Prefix):Bool:=!a.any (fun x=>b.any (fun y=>decide (x=y)))
theorem apart1_ok (fr:Bool) (b:List Prefix) (p:Prefix):PCon prog 111 ([]++ [encP p]++ [.iptr true [encPs fr b]]) (.bool (b.any (fun y=>decide (p=y)))):=by
 show PCon prog 111 [encP p,.iptr true [encPs fr b]] _
 refine callV_of (fn:=Go.Proofs.Tryz.f111) (body:=_) tab_ok mixed rfl rfl (by decide) (by simp[Go.Proofs.Tryz.f111]) ?_
 conv=>whnf
 refine callV_pure (containsP_ok fr b p) ⟨.free (encPs_free _ _),.free (encP_free _),trivial⟩ ?_
 conv=>whnf
 exact(Ends.pA)
theorem uapart_ok (fr fr':Bool) (a b:List Prefix):PCon prog 62 [encPs fr a,encPs fr' b] (.bool (apartP a b)):=by
 refine callV_of (fn:=Go.Proofs.Tryz.f62) (body:=_) tab_ok mixed rfl rfl (by decide) (by simp[Go.Proofs.Tryz.f62]) ?_
 conv=>whnf
 refine callV_freeze (args':=[encPs fr a,.fn (.func 111) [] [.iptr true [encPs fr' b]]]) [0] (h':=[]) (LeH.nil (by omega) (fun _ _=>rfl) (one_none rfl)) ⟨.free (encPs_free _ _),.fnL trivial ⟨.fz9 (by simp) rfl (by intro v hv;obtain rfl:=List.mem_singleton.1 hv;exact encPs_free _ _),trivial⟩,trivial⟩ ?_
 refine callV_pure (containsFuncP_ok fr a 111 [.iptr true [encPs fr' b]] (fun x=>b.any (fun y=>decide (x=y))) (fun p=>apart1_ok fr' b p) (by intro v hv;obtain rfl:=List.mem_singleton.1 hv;exact .iptr (by intro v hv;obtain rfl:=List.mem_singleton.1 hv;exact encPs_free _ _))) ⟨.free (encPs_free _ _),.free (.fn (by simp) (by intro v hv;obtain rfl:=List.mem_singleton.1 hv;exact .iptr (by intro v hv;obtain rfl:=List.mem_singleton.1 hv;exact encPs_free _ _))),trivial⟩ ?_
 conv=>whnf
 exact(Ends.pA)
theorem rise_step {l:List Prefix} {i:Nat} (hc:i < l.length) (hz:riseOk (l.take i)) (h1:prefOk l[i]=true) (h2:∀h0:0 < i,pkey l[i - 1] < pkey l[i]):riseOk (l.take (i + 1)):=by
 intro j hj
 rw[List.length_take]at hj
 rcases Nat.lt_or_ge j i with h|h
 ·have:=hz j (by rw[List.length_take];omega)
  simpa using this
 ·obtain rfl:j=i:=by omega
  simpa using⟨h1,h2⟩
theorem rise_not {l:List Prefix} {i:Nat} (hc:i < l.length) (h:¬ (prefOk l[i]=true∧∀h0:0 < i,pkey l[i - 1] < pkey l[i])):riseP l=false:=by
 cases hr:riseP l with
 | false=>rfl
 | true=>exact absurd (riseP_iff.1 hr i hc) h
theorem refRise_ok (fr:Bool) (l:List Prefix):PCon prog 134 [encPs fr l] (.bool (riseP l)):=by
 refine callV_of (fn:=Go.Proofs.Tryz.f134) (body:=_) tab_ok mixed rfl rfl (by decide) (by simp[Go.Proofs.Tryz.f134]) ?_
 conv=>whnf
 refine vcg_loop tab_ok mixed (fun i:{i:Nat // i≤l.length∧riseOk (l.take i)}=>⟨[(0,encPs fr l),(3,cI i.1)],[],0⟩) (fun i=>l.length - i.1) ⟨0,by omega,fun j hj=>by simp at hj⟩ (Wk.of id [] ⟨.free (encPs_free _ _),.int_of rfl,trivial⟩ (LeH.nil (Nat.le_refl _) (fun b h=>by omega) (by simp))) (fun i=>?_)
 obtain⟨i,hi,hz⟩:=i
 conv=>whnf
 intro hl
 have hl:l.length≤maxLen:=by simpa[gd]using hl
 conv=>whnf
 split
 ·rename_i hc
  have hc:i < l.length:=by simpa using hc
  have hr:=rRight_ok l[i]
  conv=>whnf
  refine ixK (idxP hc) ?_
  conv=>whnf
  refine⟨_,[],fun h nx _=>pureV_pure hr ⟨.free (encP_free _),trivial⟩,by simp,?_⟩
  cases h1:prefOk l[i]with
  | false=>
   conv=>whnf
   refine⟨by kernel_rfl,?_⟩
   conv=>whnf
   exact(Ends.pure [] (by repeat' (first|exact True.intro|exact .bool_of (rise_not hc (by rw[h1];simp)).symm|exact .A|exact LeL.fr rfl|refine .tupL ?_|refine .aggL ?_|refine⟨?_,?_⟩)) (by simp))
  | true=>
  conv=>whnf
  cases h2:decide ((0:Int) < (i:Int))with
  | false=>
   have h0:i=0:=by simp at h2;omega
   conv=>whnf
   refine⟨by kernel_rfl,?_⟩
   conv=>whnf
   exact⟨⟨i + 1,by omega,rise_step hc hz h1 (fun h=>by omega)⟩,Wk.of id [] ⟨.free (encPs_free _ _),.int_of (wrap64_succ hc hl),trivial⟩ (LeH.nil (Nat.le_refl _) (fun b h=>by omega) (by simp)),by simp only;omega⟩
  | true=>
   have h0:0 < i:=by simp at h2;omega
   have hw:IntKind.i64.wrap ((i:Int) - 1)=((i - 1:Nat):Int):=by rw[wrap64 (by omega) (by have:maxLen=9223372036854775807:=rfl;omega)];omega
   have hcm:=refCompare_ok (l[i - 1]'(by omega)) l[i]
   conv=>whnf
   refine⟨rfl,_,⟨by rw[hw];omega,by rw[hw];exact idxP (by omega)⟩,?_⟩
   conv=>whnf
   refine ixK (idxP hc) ?_
   conv=>whnf
   refine⟨_,[],fun h nx _=>pureV_pure hcm ⟨.free (encP_free _),.free (encP_free _),trivial⟩,by simp,?_⟩
   conv=>whnf
   refine⟨by kernel_rfl,?_⟩
   conv=>whnf
   split
   ·rename_i h3
    have h3:¬ pkey l[i - 1] < pkey l[i]:=by rw[← cmpP_lt];simpa using h3
    conv=>whnf
    exact(Ends.pure [] (by repeat' (first|exact True.intro|exact .bool_of (rise_not hc (fun h=>h3 (h.2 h0))).symm|exact .A|exact LeL.fr rfl|refine .tupL ?_|refine .aggL ?_|refine⟨?_,?_⟩)) (by simp))
   ·rename_i h3
    have h3:pkey l[i - 1] < pkey l[i]:=by rw[← cmpP_lt];simpa using h3
    conv=>whnf
    exact⟨⟨i + 1,by omega,rise_step hc hz h1 (fun _=>h3)⟩,Wk.of id [] ⟨.free (encPs_free _ _),.int_of (wrap64_succ hc hl),trivial⟩ (LeH.nil (Nat.le_refl _) (fun b h=>by omega) (by simp)),by simp only;omega⟩
 ·rename_i hc
  have hc:i=l.length:=by simp at hc;omega
  subst hc
  rw[List.take_length]at hz
  conv=>whnf
  exact(Ends.pure [] (by repeat' (first|exact True.intro|exact .bool_of (riseP_iff.2 hz).symm|exact .A|exact LeL.fr rfl|refine .tupL ?_|refine .aggL ?_|refine⟨?_,?_⟩)) (by simp))
end
section
open Go.Proofs.Tryz (prog)
attribute [local irreducible] CallV RoundV aggK
structure Upd where
 gone:List Prefix
 new:List Prefix
 attrs:Attrs
deriving DecidableEq
def cellsU (fr:Bool) (u:Upd):List V:=encPs fr u.gone :: encPs fr u.new :: cellsA fr u.attrs
def encU (fr:Bool) (u:Upd):V:=.agg (cellsU fr u)
theorem cellsU_free (fr:Bool) (u:Upd):∀v∈cellsU fr u,Free v:=by
 intro v hv
 rcases List.mem_cons.1 hv with rfl|hv
 ·exact encPs_free _ _
 rcases List.mem_cons.1 hv with rfl|hv
 ·exact encPs_free _ _
 ·exact cellsA_free _ _ v hv
theorem encU_free (fr:Bool) (u:Upd):Free (encU fr u):=.agg (cellsU_free fr u)
def sameU (a b:Upd):Bool:=decide (a.gone=b.gone)&& decide (a.new=b.new)&& sameA a.attrs b.attrs
theorem refSameU_ok (fr fr':Bool) (a b:Upd):PCon prog 89 [encU fr a,encU fr' b] (.bool (sameU a b)):=by
 have e1:=refSames_ok fr fr' a.gone b.gone
 have e2:=refSames_ok fr fr' a.new b.new
 have e3:=ref_same_ok fr fr' a.attrs b.attrs
 refine callV_of (fn:=Go.Proofs.Tryz.f89) (body:=_) tab_ok mixed rfl rfl (by decide) (by simp[Go.Proofs.Tryz.f89]) ?_
 conv=>whnf
 refine callV_pure e1 ⟨.free (encPs_free _ _),.free (encPs_free _ _),trivial⟩ ?_
 cases h1:decide (a.gone=b.gone)with
 | false=>
  conv=>whnf
  exact(Ends.pure [] (by repeat' (first|exact True.intro|exact .bool_of (by simp[sameU,h1])|exact .A|exact LeL.fr rfl|refine .tupL ?_|refine .aggL ?_|refine⟨?_,?_⟩)) (by simp))
 | true=>
 conv=>whnf
 refine callV_pure e2 ⟨.free (encPs_free _ _),.free (encPs_free _ _),trivial⟩ ?_
 cases h2:decide (a.new=b.new)with
 | false=>
  conv=>whnf
  exact(Ends.pure [] (by repeat' (first|exact True.intro|exact .bool_of (by simp only[sameU,h1,h2];rfl)|exact .A|exact LeL.fr rfl|refine .tupL ?_|refine .aggL ?_|refine⟨?_,?_⟩)) (by simp))
 | true=>
 conv=>whnf
 refine callV_pure e3 ⟨.free (encA_free _ _),.free (encA_free _ _),trivial⟩ ?_
 conv=>whnf
 exact(Ends.pure [] (by repeat' (first|exact True.intro|exact .bool_of (by simp only[sameU,h1,h2];rfl)|exact .A|exact LeL.fr rfl|refine .tupL ?_|refine .aggL ?_|refine⟨?_,?_⟩)) (by simp))
theorem refApart_ok (fr fr':Bool) (a b:List Prefix):PCon prog 135 [encPs fr a,encPs fr' b] (.bool (apartP a b)):=by
 refine callV_of (fn:=Go.Proofs.Tryz.f135) (body:=_) tab_ok mixed rfl rfl (by decide) (by simp[Go.Proofs.Tryz.f135]) ?_
 conv=>whnf
 refine vcg_loop tab_ok mixed (fun i:{i:Nat // i≤a.length∧(a.take i).any (fun x=>b.any (fun y=>decide (x=y)))=false}=>⟨[(0,encPs fr a),(1,encPs fr' b),(5,cI i.1)],[],0⟩) (fun i=>a.length - i.1) ⟨0,by omega,by simp⟩ (Wk.of id [] ⟨.free (encPs_free _ _),.free (encPs_free _ _),.int_of rfl,trivial⟩ (LeH.nil (Nat.le_refl _) (fun b h=>by omega) (by simp))) (fun i=>?_)
 obtain⟨i,hi,hz⟩:=i
 conv=>whnf
 intro hl
 have hl:a.length≤maxLen:=by simpa[gd]using hl
 conv=>whnf
 split
 ·rename_i hc
  have hc:i < a.length:=by simpa using hc
  conv=>whnf
  refine vcg_loop tab_ok mixed (fun j:{j:Nat // j≤b.length∧(b.take j).any (fun y=>decide (a[i]=y))=false}=>⟨[(0,encPs fr a),(1,encPs fr' b),(5,cI i),(6,cI j.1)],[],0⟩) (fun j=>b.length - j.1) ⟨0,by omega,by simp⟩ (Wk.of id [] ⟨.free (encPs_free _ _),.free (encPs_free _ _),.int_of rfl,.int_of rfl,trivial⟩ (LeH.nil (Nat.le_refl _) (fun b h=>by omega) (by simp))) (fun j=>?_)
  obtain⟨j,hj,hy⟩:=j
  conv=>whnf
  intro hl2
  have hl2:b.length≤maxLen:=by simpa[gd]using hl2
  conv=>whnf
  split
  ·rename_i hd
   have hd:j < b.length:=by simpa using hd
   conv=>whnf
   refine ixK (idxP hc) ?_
   conv=>whnf
   refine ixK (idxP hd) ?_
   conv=>whnf
   refine eqlP a[i] b[j] ?_
   conv=>whnf
   refine⟨by kernel_rfl,?_⟩
   conv=>whnf
   split
   ·rename_i h1
    have h1:a[i]=b[j]:=by simpa using h1
    conv=>whnf
    have hany:a.any (fun x=>b.any (fun y=>decide (x=y)))=true:=List.any_eq_true.2 ⟨a[i],List.getElem_mem hc,List.any_eq_true.2 ⟨b[j],List.getElem_mem hd,by simp[h1]⟩⟩
    exact(Ends.pure [] (by repeat' (first|exact True.intro|exact .bool_of (by rw[apartP,hany];rfl)|exact .A|exact LeL.fr rfl|refine .tupL ?_|refine .aggL ?_|refine⟨?_,?_⟩)) (by simp))
   ·rename_i h1
    have h1:decide (a[i]=b[j])=false:=by simpa using h1
    conv=>whnf
    exact⟨⟨j + 1,by omega,any_none hd hy h1⟩,Wk.of id [] ⟨.free (encPs_free _ _),.free (encPs_free _ _),.int_of rfl,.int_of (wrap64_succ hd hl2),trivial⟩ (LeH.nil (Nat.le_refl _) (fun b h=>by omega) (by simp)),by simp only;omega⟩
  ·rename_i hd
   have hd:j=b.length:=by simp at hd;omega
   subst hd
   rw[List.take_length]at hy
   conv=>whnf
   exact⟨⟨i + 1,by omega,any_none hc hz hy⟩,Wk.of id [] ⟨.free (encPs_free _ _),.free (encPs_free _ _),.int_of (wrap64_succ hc hl),trivial⟩ (LeH.nil (Nat.le_refl _) (fun b h=>by omega) (by simp)),by simp only;omega⟩
 ·rename_i hc
  have hc:i=a.length:=by simp at hc;omega
  subst hc
  rw[List.take_length]at hz
  conv=>whnf
  exact(Ends.pure [] (by repeat' (first|exact True.intro|exact .bool_of (by rw[apartP,hz];rfl)|exact .A|exact LeL.fr rfl|refine .tupL ?_|refine .aggL ?_|refine⟨?_,?_⟩)) (by simp))
end
section
open Go.Proofs.Tryz (prog)
attribute [local irreducible] CallV RoundV aggK
theorem four20_ok (x:UInt32):PCon prog 213 [cW x] (encB true (fourB x)):=by
 refine callV_of (fn:=Go.Proofs.Tryz.f213) (body:=_) tab_ok mixed rfl rfl (by decide) (by simp[Go.Proofs.Tryz.f213]) ?_
 conv=>whnf
 refine⟨by decide,?_⟩
 conv=>whnf
 refine⟨by decide,?_⟩
 conv=>whnf
 refine⟨by decide,?_⟩
 conv=>whnf
 refine⟨by decide,?_⟩
 conv=>whnf
 refine⟨by decide,?_⟩
 conv=>whnf
 refine⟨by decide,?_⟩
 conv=>whnf
 have hx:=x.toNat_lt
 refine Ends.pure [0] (LeV.freeze_of (by simp) rfl (by simp) ?_ ?_) ?_
 ·intro r hr v hv
  simp at hr
  rcases hr with rfl|rfl|rfl|rfl<;>(simp at hv;subst hv;exact .int)
 ·have e:∀(n:Nat),((x.toNat:Int).tdiv n)=((x.toNat / n:Nat):Int):=fun n=>by rw[Int.tdiv_eq_ediv_of_nonneg (by omega)];rfl
  have e2:∀(n m:Nat),(((n:Nat):Int).tmod (m:Nat))=((n % m:Nat):Int):=fun n m=>by rw[Int.tmod_eq_emod_of_nonneg (by omega)];rfl
  have w:∀(n:Nat),n < 4294967296→IntKind.u32.wrap (n:Int)=n:=fun n hn=>by rw[wrap32];omega
  have e1:=e 16777216
  have e3:=e 65536
  have e4:=e 256
  simp only[Int.cast_ofNat_Int]at e1 e3 e4
  have d1:=w (x.toNat / 16777216) (by omega)
  have d2:=w (x.toNat / 65536) (by omega)
  have d3:=w (x.toNat / 256) (by omega)
  have m1:=e2 (x.toNat / 65536) 256
  have m2:=e2 (x.toNat / 256) 256
  have m3:=e2 x.toNat 256
  simp only[Int.cast_ofNat_Int]at m1 m2 m3
  rw[e1,e3,e4,d1,d2,d3,m1,m2,m3]
  simp[fourB,wrap8,UInt32.toNat_shiftRight,Nat.shiftRight_eq_div_pow]
 ·intro z hz
  obtain rfl:=List.mem_singleton.1 hz
  exact ne_none_of rfl
end
section
open Go.Proofs.Tryz (prog)
attribute [local irreducible] CallV RoundV aggK
instance {fr l}:FreeI (encPs fr l):=⟨⟨encPs_free fr l⟩⟩
instance {l}:FreeRI (rowsP l):=⟨⟨rowsP_free l⟩⟩
instance {fr u}:FreeI (encU fr u):=⟨⟨encU_free fr u⟩⟩
instance {fr u}:FreeLI (cellsU fr u):=⟨⟨cellsU_free fr u⟩⟩
def nP (p:Prefix):Nat:=(p.len.toNat + 7) / 8
def prefB (p:Prefix):List UInt8:=p.len :: (fourB p.addr).take (nP p)
def prefsB (l:List Prefix):List UInt8:=l.flatMap prefB
theorem prefsB_succ {l:List Prefix} {i:Nat} (h:i < l.length):prefsB (l.take (i + 1))=prefsB (l.take i)++ prefB l[i]:=by
 unfold prefsB
 rw[List.take_succ_eq_append_getElem h,List.flatMap_append,List.flatMap_cons,List.flatMap_nil,List.append_nil]
theorem prefB_len (p:Prefix):1≤(prefB p).length∧(prefB p).length≤5:=by
 simp[prefB,fourB]
 omega
theorem prefsB_len:∀l:List Prefix,(prefsB l).length≤5 * l.length
 | []=>by simp[prefsB]
 | p :: l=>by
  have:=prefsB_len l
  have h:=prefB_len p
  rw[prefsB,List.flatMap_cons,List.length_append,← prefsB,List.length_cons]
  omega
theorem prefsB_take (l:List Prefix) (i:Nat) (h:i≤l.length):(prefsB (l.take i)).length≤5 * l.length:=by
 have:=prefsB_len (l.take i)
 rw[List.length_take]at this
 omega
theorem nP_int (p:Prefix):(IntKind.i64.wrap ((IntKind.i64.wrap ((IntKind.i64.wrap (p.len.toNat:Int))+ 7)).tdiv 8))=(nP p:Int):=by
 have:=p.len.toNat_lt
 rw[wrap64 (n:=(p.len.toNat:Int)) (by omega) (by omega),wrap64 (n:=(p.len.toNat:Int)+ 7) (by omega) (by omega),Int.tdiv_eq_ediv_of_nonneg (by omega),wrap64 (by omega) (by omega),nP]
 omega
theorem nP_le {p:Prefix} (h:prefOk p=true):nP p≤4:=by
 simp only[prefOk,Bool.and_eq_true,decide_eq_true_eq]at h
 unfold nP
 omega
theorem ulaid_ok (fr:Bool) (l:List Prefix) (hb:l.length≤1000) (hr:∀p∈l,prefOk p=true):PCon prog 113 [encPs fr l] (encB true (prefsB l)):=by
 refine callV_of (fn:=Go.Proofs.Tryz.f113) (body:=_) tab_ok mixed rfl rfl (by decide) (by simp[Go.Proofs.Tryz.f113]) ?_
 conv=>whnf
 intro _
 conv=>whnf
 refine vcg_loop tab_ok mixed (fun i:{i:Nat // i≤l.length}=>⟨[(2,.osl 0 1 0 (prefsB (l.take i.1)).length),(5,encPs fr l),(6,cI l.length),(7,cI i.1)],[(0,some (.arr true false 5 1 (rowsB (prefsB (l.take i.1)))))],1⟩) (fun i=>l.length - i.1) ⟨0,by omega⟩ (Wk.i (by repeat' (first|exact LHa|exact .int_of (by simp)|exact .A|exact LeL.fr rfl|exact LHb|refine Or.inl ⟨by simp,_,rfl,?_⟩|exact Or.inr ⟨by simp,_,_,_,_,rfl⟩|refine⟨rfl,rfl,rfl,rfl,rfl,rfl,?_⟩|refine⟨?_,?_⟩)) (by omega)) (fun i=>?_)
 obtain⟨i,hi⟩:=i
 have hlen:=prefsB_take l i hi
 conv=>whnf
 split
 ·rename_i hc
  have hc:i < l.length:=by simpa using hc
  have hp:=hr l[i] (List.getElem_mem hc)
  have h4:=nP_le hp
  conv=>whnf
  refine ixK (idxP hc) ?_
  conv=>whnf
  refine⟨rfl,by simp,⟨rfl,rfl,rfl,rfl,by decide⟩,by simp[rowsB],⟨by simp[tab,tabOf,nth];omega,by simp;omega⟩,?_⟩
  conv=>whnf
  refine⟨_,[],fun h nx _=>pureV_pure (uhigh_ok _) ⟨.int_of rfl,.fr rfl,trivial⟩,by simp,?_⟩
  conv=>whnf
  refine⟨by decide,?_⟩
  conv=>whnf
  refine⟨rfl,⟨trivial,by rw[nP_int];omega,Nat.zero_le _,by rw[nP_int];simp[fourB];omega⟩,?_⟩
  conv=>whnf
  refine⟨⟨rfl,rfl,rfl,rfl,by decide⟩,by simp[rowsB],⟨by simp[tab,tabOf,nth,fourB];omega,by simp[fourB];omega⟩,?_⟩
  conv=>whnf
  refine⟨by kernel_rfl,?_⟩
  conv=>whnf
  exact⟨⟨i + 1,by omega⟩,(Wk.all (renOf [(0,4)]) [] (by repeat' (first|exact LHa|exact .int_of (wrap64_succ hc (by unfold maxLen;omega))|exact .osl_of rfl (by omega) (by rw[prefsB_succ hc,nP_int];simp[prefB,fourB];omega)|exact LeB.fr (by rw[prefsB_succ hc,nP_int];simp[prefB,rowsB,List.take_of_length_le]) id id|exact .A|exact LeL.fr rfl|exact LHb|refine Or.inl ⟨by simp,_,rfl,?_⟩|exact Or.inr ⟨by simp,_,_,_,_,rfl⟩|refine⟨rfl,rfl,rfl,rfl,rfl,rfl,?_⟩|refine⟨?_,?_⟩)) (show ∀b∈([0]:List Nat),∀b'∈([0]:List Nat),(renOf [(0,4)]) b=(renOf [(0,4)]) b'→b=b' by decide) (fun _ h=>by omega) (by omega) (by simp)),by simp only;omega⟩
 ·rename_i hc
  have hc:i=l.length:=by simp at hc;omega
  subst hc
  conv=>whnf
  exact Ends.pure [0] (LeV.freezeE (ys:=rowsB (prefsB l)) (by simp) rfl (by simp[rowsB]) (by simp[rowsB,List.take_of_length_le]) (rowsB_free _)) (one_none rfl)
theorem rlaid_ok (fr:Bool) (l:List Prefix) (hb:l.length≤1000) (hr:∀p∈l,prefOk p=true):PCon prog 169 [encPs fr l] (encB true (prefsB l)):=by
 refine callV_of (fn:=Go.Proofs.Tryz.f169) (body:=_) tab_ok mixed rfl rfl (by decide) (by simp[Go.Proofs.Tryz.f169]) ?_
 conv=>whnf
 refine vcg_loop tab_ok mixed (fun i:{i:Nat // i≤l.length}=>⟨[(0,encPs fr l),(3,.osl 0 1 0 (prefsB (l.take i.1)).length),(4,cI i.1)],[(0,some (.arr true false 5 1 (rowsB (prefsB (l.take i.1)))))],1⟩) (fun i=>l.length - i.1) ⟨0,by omega⟩ (Wk.i (by repeat' (first|exact LHa|exact .A|exact LeL.fr rfl|exact LHb|refine Or.inl ⟨by simp,_,rfl,?_⟩|exact Or.inr ⟨by simp,_,_,_,_,rfl⟩|refine⟨rfl,rfl,rfl,rfl,rfl,rfl,?_⟩|refine⟨?_,?_⟩)) (by omega)) (fun i=>?_)
 obtain⟨i,hi⟩:=i
 have hlen:=prefsB_take l i hi
 conv=>whnf
 intro _
 conv=>whnf
 split
 ·rename_i hc
  have hc:i < l.length:=by simpa using hc
  have hp:=hr l[i] (List.getElem_mem hc)
  have h4:=nP_le hp
  conv=>whnf
  refine ixK (idxP hc) ?_
  conv=>whnf
  refine⟨rfl,by simp,⟨rfl,rfl,rfl,rfl,by decide⟩,by simp[rowsB],⟨by simp[tab,tabOf,nth];omega,by simp;omega⟩,?_⟩
  conv=>whnf
  refine ixK (idxP hc) ?_
  conv=>whnf
  refine⟨_,[],fun h nx _=>pureV_pure (four20_ok _) ⟨.int_of rfl,trivial⟩,by simp,?_⟩
  conv=>whnf
  refine ixK (idxP hc) ?_
  conv=>whnf
  refine⟨by decide,?_⟩
  conv=>whnf
  refine⟨rfl,⟨trivial,by rw[nP_int];omega,Nat.zero_le _,by rw[nP_int];simp[fourB];omega⟩,?_⟩
  conv=>whnf
  refine⟨⟨rfl,rfl,rfl,rfl,by decide⟩,by simp[rowsB],⟨by simp[tab,tabOf,nth,fourB];omega,by simp[fourB];omega⟩,?_⟩
  conv=>whnf
  refine⟨by kernel_rfl,?_⟩
  conv=>whnf
  exact⟨⟨i + 1,by omega⟩,(Wk.all (renOf [(0,3)]) [] (by repeat' (first|exact LHa|exact .int_of (wrap64_succ hc (by unfold maxLen;omega))|exact .osl_of rfl (by omega) (by rw[prefsB_succ hc,nP_int];simp[prefB,fourB];omega)|exact LeB.fr (by rw[prefsB_succ hc,nP_int];simp[prefB,rowsB,List.take_of_length_le]) id id|exact .A|exact LeL.fr rfl|exact LHb|refine Or.inl ⟨by simp,_,rfl,?_⟩|exact Or.inr ⟨by simp,_,_,_,_,rfl⟩|refine⟨rfl,rfl,rfl,rfl,rfl,rfl,?_⟩|refine⟨?_,?_⟩)) (show ∀b∈([0]:List Nat),∀b'∈([0]:List Nat),(renOf [(0,3)]) b=(renOf [(0,3)]) b'→b=b' by decide) (fun _ h=>by omega) (by omega) (by simp)),by simp only;omega⟩
 ·rename_i hc
  have hc:i=l.length:=by simp at hc;omega
  subst hc
  conv=>whnf
  exact Ends.pure [0] (LeV.freezeE (ys:=rowsB (prefsB l)) (by simp) rfl (by simp[rowsB]) (by simp[rowsB,List.take_of_length_le]) (rowsB_free _)) (one_none rfl)
end
section
open Go.Proofs.Tryz (prog)
attribute [local irreducible] CallV RoundV aggK
abbrev rowsC (ls:List (List UInt8)):List (List V):=ls.map fun l=>[encB false l]
def catV (fr:Bool) (ls:List (List UInt8)):V:=.sl fr 1 (rowsC ls)
theorem rowsC_all (ls:List (List UInt8)):∀x∈rowsC ls,∀v∈x,Free v∧Cold v:=by
 intro x hx v hv
 obtain⟨l,_,rfl⟩:=List.mem_map.1 hx
 simp at hv;subst hv;exact⟨encB_free _ _,encB_cold _⟩
theorem catV_free (fr:Bool) (ls:List (List UInt8)):Free (catV fr ls):=.sl fun x hx v hv=>(rowsC_all ls x hx v hv).1
theorem catV_cold (ls:List (List UInt8)):Cold (catV false ls):=.sl fun x hx v hv=>(rowsC_all ls x hx v hv).2
instance {fr ls}:FreeI (catV fr ls):=⟨⟨catV_free fr ls⟩⟩
theorem idxC {ls:List (List UInt8)} {i:Nat} (h:i < ls.length):(rowsC ls)[(i:Int).toNat]? = some [encB false ls[i]]:=by simp[rowsC,h]
theorem flat_succ {α:Type} {ls:List (List α)} {i:Nat} (h:i < ls.length):(ls.take (i + 1)).flatten=(ls.take i).flatten ++ ls[i]:=by
 rw[List.take_succ_eq_append_getElem h,List.flatten_append];simp
theorem flat_le {α:Type} (ls:List (List α)) (i:Nat):(ls.take i).flatten.length≤ls.flatten.length:=by
 conv=>rhs;rw[← List.take_append_drop i ls,List.flatten_append,List.length_append]
 omega
structure Cat (ls:List (List UInt8)) where
 i:Nat
 rows:List (List V)
 le:i≤ls.length
 free:∀x∈rows,∀v∈x,Free v
 len:(ls.take i).flatten.length≤rows.length
 eq:rows.take (ls.take i).flatten.length=rowsB (ls.take i).flatten
theorem zeros8_free (n:Nat):∀r∈List.replicate n [V.int .u8 0],∀v∈r,Free v:=by
 intro r hr v hv
 rw[List.eq_of_mem_replicate hr]at hv;simp at hv;subst hv;exact .int
theorem concatB_ok (ls:List (List UInt8)) (hl:ls.length≤1000) (hs:ls.flatten.length≤1000000):PCon prog 115 [catV false ls] (encB true ls.flatten):=by
 have hf:=flat_le ls
 refine callV_of (fn:=Go.Proofs.Tryz.f115) (body:=_) tab_ok mixed rfl rfl (by decide) (by simp[Go.Proofs.Tryz.f115]) ?_
 conv=>whnf
 intro _
 conv=>whnf
 refine vcg_loop tab_ok mixed (fun i:{i:Nat // i≤ls.length}=>⟨[(0,catV false ls),(3,cI (ls.take i.1).flatten.length),(9,catV false ls),(10,cI ls.length),(11,cI i.1)],[],0⟩) (fun i=>ls.length - i.1) ⟨0,by omega⟩ (Wk.i (by repeat' (first|exact LHa|exact .int_of (by simp)|exact .int_of rfl|exact .A|exact LeL.fr rfl|exact LHb|refine Or.inl ⟨by simp,_,rfl,?_⟩|exact Or.inr ⟨by simp,_,_,_,_,rfl⟩|refine⟨rfl,rfl,rfl,rfl,rfl,rfl,?_⟩|refine⟨?_,?_⟩)) (by omega)) (fun i=>?_)
 obtain⟨i,hi⟩:=i
 have hfi:=hf i
 conv=>whnf
 split
 ·rename_i hc
  have hc:i < ls.length:=by simpa using hc
  have hn:(ls.take (i + 1)).flatten.length=(ls.take i).flatten.length + ls[i].length:=by rw[flat_succ hc,List.length_append]
  have hf1:=hf (i + 1)
  have hw:IntKind.i64.wrap (((ls.take i).flatten.length:Int)+ ((List.map (fun x=>[V.int .u8 x.toNat]) ls[i]).length:Nat))=((ls.take (i + 1)).flatten.length:Nat):=by
   rw[List.length_map,hn,wrap64 (by omega) (by omega)];omega
  conv=>whnf
  refine ixK (idxC hc) ?_
  conv=>whnf
  intro _
  conv=>whnf
  split
  ·rename_i h
   exfalso
   rw[hw]at h
   simp at h
   omega
  conv=>whnf
  exact⟨⟨i + 1,by omega⟩,(Wk.i (by repeat' (first|exact LHa|exact .int_of hw|exact .int_of (wrap64_succ hc (by unfold maxLen;omega))|exact .A|exact LeL.fr rfl|exact LHb|refine Or.inl ⟨by simp,_,rfl,?_⟩|exact Or.inr ⟨by simp,_,_,_,_,rfl⟩|refine⟨rfl,rfl,rfl,rfl,rfl,rfl,?_⟩|refine⟨?_,?_⟩)) (by omega)),by simp only;omega⟩
 rename_i hc
 have hc:i=ls.length:=by simp at hc;omega
 subst hc
 simp only[List.take_length]
 conv=>whnf
 refine callV_of (fn:=Go.Proofs.Tryz.f157) (body:=_) tab_ok mixed rfl rfl (by decide) (by simp[Go.Proofs.Tryz.f157]) ?_
 conv=>whnf
 have hn:IntKind.i64.wrap ((ls.flatten.length:Int) - IntKind.i64.wrap (0 - 0))=(ls.flatten.length:Nat):=by
  rw[show IntKind.i64.wrap (0 - 0)=0 by decide,wrap64 (by omega) (by omega)];omega
 split
 ·rename_i hg
  conv=>whnf
  refine⟨⟨trivial,by simp,rfl,rfl⟩,?_⟩
  conv=>whnf
  refine⟨by rw[hn];exact⟨by decide,by omega,by simp only[Int.toNat_natCast];show _ * 1≤_;omega,by simp only[Int.toNat_natCast];omega⟩,?_⟩
  conv=>whnf
  refine⟨rfl,.own,⟨trivial,by simp,by simp,by simp⟩,?_⟩
  conv=>whnf
  refine⟨_,_,_,Ends.here,?_⟩
  conv=>whnf
  intro _
  conv=>whnf
  refine vcg_loop tab_ok mixed (fun k:Cat ls=>⟨[(6,.osl 0 1 0 (ls.take k.i).flatten.length),(25,catV false ls),(26,cI ls.length),(27,cI k.i)],[(0,some (.arr true false 5 1 k.rows))],1⟩) (fun k=>ls.length - k.i) ⟨0,List.replicate ls.flatten.length [.int .u8 0],by omega,zeros8_free _,by simp,by simp⟩ (Wk.i (by repeat' (first|exact LHa|exact LeB.arrE (by simp only[hn,Int.toNat_natCast]) (by exact zeros8_free _) id id|exact .int_of (by simp)|exact .osl_of rfl (by omega) (by simp)|exact .A|exact LeL.fr rfl|exact LHb|refine Or.inl ⟨by simp,_,rfl,?_⟩|exact Or.inr ⟨by simp,_,_,_,_,rfl⟩|refine⟨rfl,rfl,rfl,rfl,rfl,rfl,?_⟩|refine⟨?_,?_⟩)) (by omega)) (fun k=>?_)
  obtain⟨i,rows,hi,hfr,hln,heq⟩:=k
  have hfi:=hf i
  conv=>whnf
  split
  ·rename_i hc
   have hc:i < ls.length:=by simpa using hc
   have hn':(ls.take (i + 1)).flatten.length=(ls.take i).flatten.length + ls[i].length:=by rw[flat_succ hc,List.length_append]
   have hf1:=hf (i + 1)
   conv=>whnf
   refine ixK (idxC hc) ?_
   conv=>whnf
   refine⟨⟨rfl,rfl,rfl,rfl,by decide⟩,hln,⟨by simp only[List.length_map];show _ * 1≤_;omega,by simp only[List.length_map];omega⟩,?_⟩
   conv=>whnf
   exact⟨⟨i + 1,rowsB (ls.take (i + 1)).flatten,by omega,rowsB_free _,Nat.le_of_eq (List.length_map _).symm,List.take_of_length_le (Nat.le_of_eq (List.length_map _))⟩,(Wk.all (renOf [(0,1)]) [] (by repeat' (first|exact LHa|exact .int_of (wrap64_succ hc (by unfold maxLen;omega))|exact .osl_of rfl (by omega) (by simp only[List.length_map];exact hn'.symm)|exact LeB.arrE (show List.take (ls.take i).flatten.length rows ++ rowsB ls[i]=rowsB (ls.take (i + 1)).flatten by rw[heq,flat_succ hc];simp only[rowsB,List.map_append]) (show ∀x∈List.take (ls.take i).flatten.length rows ++ rowsB ls[i],∀v∈x,Free v by rw[heq,← List.map_append];exact rowsB_free _) id id|exact .A|exact LeL.fr rfl|exact LHb|refine Or.inl ⟨by simp,_,rfl,?_⟩|exact Or.inr ⟨by simp,_,_,_,_,rfl⟩|refine⟨rfl,rfl,rfl,rfl,rfl,rfl,?_⟩|refine⟨?_,?_⟩)) (show ∀b∈([0]:List Nat),∀b'∈([0]:List Nat),(renOf [(0,1)]) b=(renOf [(0,1)]) b'→b=b' by decide) (fun _ h=>by omega) (by omega) (by simp)),by simp only;omega⟩
  ·rename_i hc
   have hc:i=ls.length:=by simp at hc;omega
   subst hc
   rw[List.take_length]at heq hln
   conv=>whnf
   exact Ends.pure [0] (LeV.freezeE (ys:=rowsB ls.flatten) (by simp) rfl (show 0 + (ls.take ls.length).flatten.length≤rows.length by rw[List.take_length,Nat.zero_add];exact hln) (show((rows.drop 0).take (ls.take ls.length).flatten.length)=_ by rw[List.drop_zero,List.take_length];exact heq) (rowsB_free _)) (one_none rfl)
 ·rename_i hg
  have h0:ls.flatten.length=0:=by have hg:=of_decide_eq_false hg;rw[hn]at hg;omega
  conv=>whnf
  refine⟨_,_,_,Ends.here,?_⟩
  conv=>whnf
  intro _
  conv=>whnf
  refine vcg_loop tab_ok mixed (fun k:Cat ls=>⟨[(6,.osl 0 1 0 (ls.take k.i).flatten.length),(25,catV false ls),(26,cI ls.length),(27,cI k.i)],[(0,some (.arr true false 5 1 k.rows))],1⟩) (fun k=>ls.length - k.i) ⟨0,[],by omega,by simp,by simp,by simp⟩ (Wk.i (by repeat' (first|exact LHa|exact LeB.fr rfl id id|exact .int_of (by simp)|exact .osl_of rfl (by omega) (by simp)|exact .A|exact LeL.fr rfl|exact LHb|refine Or.inl ⟨by simp,_,rfl,?_⟩|exact Or.inr ⟨by simp,_,_,_,_,rfl⟩|refine⟨rfl,rfl,rfl,rfl,rfl,rfl,?_⟩|refine⟨?_,?_⟩)) (by omega)) (fun k=>?_)
  obtain⟨i,rows,hi,hfr,hln,heq⟩:=k
  have hfi:=hf i
  conv=>whnf
  split
  ·rename_i hc
   have hc:i < ls.length:=by simpa using hc
   have hn':(ls.take (i + 1)).flatten.length=(ls.take i).flatten.length + ls[i].length:=by rw[flat_succ hc,List.length_append]
   have hf1:=hf (i + 1)
   conv=>whnf
   refine ixK (idxC hc) ?_
   conv=>whnf
   refine⟨⟨rfl,rfl,rfl,rfl,by decide⟩,hln,⟨by simp only[List.length_map];show _ * 1≤_;omega,by simp only[List.length_map];omega⟩,?_⟩
   conv=>whnf
   exact⟨⟨i + 1,rowsB (ls.take (i + 1)).flatten,by omega,rowsB_free _,Nat.le_of_eq (List.length_map _).symm,List.take_of_length_le (Nat.le_of_eq (List.length_map _))⟩,(Wk.all (renOf [(0,1)]) [] (by repeat' (first|exact LHa|exact .int_of (wrap64_succ hc (by unfold maxLen;omega))|exact .osl_of rfl (by omega) (by simp only[List.length_map];exact hn'.symm)|exact LeB.arrE (show List.take (ls.take i).flatten.length rows ++ rowsB ls[i]=rowsB (ls.take (i + 1)).flatten by rw[heq,flat_succ hc];simp only[rowsB,List.map_append]) (show ∀x∈List.take (ls.take i).flatten.length rows ++ rowsB ls[i],∀v∈x,Free v by rw[heq,← List.map_append];exact rowsB_free _) id id|exact .A|exact LeL.fr rfl|exact LHb|refine Or.inl ⟨by simp,_,rfl,?_⟩|exact Or.inr ⟨by simp,_,_,_,_,rfl⟩|refine⟨rfl,rfl,rfl,rfl,rfl,rfl,?_⟩|refine⟨?_,?_⟩)) (show ∀b∈([0]:List Nat),∀b'∈([0]:List Nat),(renOf [(0,1)]) b=(renOf [(0,1)]) b'→b=b' by decide) (fun _ h=>by omega) (by omega) (by simp)),by simp only;omega⟩
  ·rename_i hc
   have hc:i=ls.length:=by simp at hc;omega
   subst hc
   rw[List.take_length]at heq hln
   conv=>whnf
   exact Ends.pure [0] (LeV.freezeE (ys:=rowsB ls.flatten) (by simp) rfl (show 0 + (ls.take ls.length).flatten.length≤rows.length by rw[List.take_length,Nat.zero_add];exact hln) (show((rows.drop 0).take (ls.take ls.length).flatten.length)=_ by rw[List.drop_zero,List.take_length];exact heq) (rowsB_free _)) (one_none rfl)
end
section
open Go.Proofs.Tryz (prog)
attribute [local irreducible] CallV RoundV aggK
def gB (u:Upd):List UInt8:=prefsB u.gone
def aA (a:Attrs):List UInt8:=if rightA a then rawP a 6 else []
theorem rawA_ok (fr:Bool) (a:Attrs) (hf:fewA a=true):PCon prog 114 [encA fr a] (.tup [encB true (aA a),.int .i64 (checkA a)]):=raw_ok fr a hf
def aB (u:Upd):List UInt8:=aA u.attrs
def partsU (u:Upd):List (List UInt8):=[twoB (gB u).length,gB u,twoB (aB u).length,aB u,prefsB u.new]
def bodyB (u:Upd):List UInt8:=(partsU u).flatten
def okPs (l:List Prefix):Prop:=∀p∈l,prefOk p=true
structure Small (u:Upd):Prop where
 gone:u.gone.length≤1000
 new:u.new.length≤1000
 few:fewA u.attrs=true
theorem aB_len {u:Upd} (h:fewA u.attrs=true):(aB u).length≤20000:=by
 unfold aB aA
 split
 ·have:=rawA_len h
  rw[rawP_eq];exact this
 ·simp
theorem gB_len {u:Upd} (h:u.gone.length≤1000):(gB u).length≤5000:=by
 have:=prefsB_len u.gone
 unfold gB;omega
theorem bodyB_len {u:Upd} (h:Small u):(bodyB u).length≤100000:=by
 have h1:=aB_len h.few
 have h2:=gB_len h.gone
 have h3:=prefsB_len u.new
 have h4:=h.new
 simp only[bodyB,partsU,List.flatten_cons,List.flatten_nil,List.length_append,List.append_nil,twoB,List.length_cons,List.length_nil]
 omega
theorem less_encB {fr:Bool} {l:List UInt8}:Less (encB fr l) (encB false l):=Less.sl (by simp) rfl (by
 intro j v v' h1 h2
 rw[h1]at h2;cases h2;exact .refl _)
theorem less_catV {ls:List (List UInt8)}:Less (.sl false 1 (ls.map fun l=>[encB true l])) (catV false ls):=Less.sl id (by simp) (by
 intro j v v' h1 h2
 rw[flat1]at h1 h2
 simp only[List.getElem?_map,Option.map_eq_some_iff]at h1 h2
 obtain⟨x,hx,rfl⟩:=h1
 obtain⟨y,hy,rfl⟩:=h2
 rw[hx]at hy;cases hy
 exact less_encB)
theorem rowsT_free (ls:List (List UInt8)):∀x∈(ls.map fun l=>[encB true l]),∀v∈x,Free v:=by
 intro x hx v hv
 obtain⟨l,_,rfl⟩:=List.mem_map.1 hx
 simp at hv;subst hv;exact encB_free _ _
theorem uraw_ok (fr:Bool) (u:Upd) (hs:Small u) (hg:okPs u.gone) (hn:okPs u.new):PCon prog 63 [encU fr u] (encB true (bodyB u)):=by
 have h1:=aB_len hs.few
 have h2:=gB_len hs.gone
 have h3:=bodyB_len hs
 have ca:=concatB_ok (partsU u) (by simp[partsU]) (by rw[← bodyB];omega)
 refine callV_of (fn:=Go.Proofs.Tryz.f63) (body:=_) tab_ok mixed rfl rfl (by decide) (by simp[Go.Proofs.Tryz.f63]) ?_
 conv=>whnf
 refine callV_pure (ulaid_ok fr u.gone hs.gone hg) ⟨.fr rfl,trivial⟩ ?_
 conv=>whnf
 refine callV_pure (rawA_ok fr u.attrs hs.few) ⟨.fr rfl,trivial⟩ ?_
 conv=>whnf
 refine⟨_,[],fun h nx _=>pureV_pure (uhighI_ok (gB u).length (by omega)) ⟨.int_of (by simp[gB]),.fr rfl,trivial⟩,by simp,?_⟩
 conv=>whnf
 refine⟨_,[],fun h nx _=>pureV_pure (uhighI_ok (aB u).length (by omega)) ⟨.int_of (by simp[aB]),.fr rfl,trivial⟩,by simp,?_⟩
 conv=>whnf
 refine⟨_,[],fun h nx _=>pureV_pure (ulaid_ok fr u.new hs.new hn) ⟨.fr rfl,trivial⟩,by simp,?_⟩
 conv=>whnf
 refine⟨encB true (bodyB u),[(1,some (.arr true true 127 1 ((partsU u).map fun l=>[encB true l])))],fun h nx hrd=>?_,?_,?_⟩
 ·have hb:=hrd 1 _ (List.mem_singleton.2 rfl)
  exact pureV_lend [1] ca ⟨LeV.less (LeV.fresh_off (LeV.freeze_of (ys:=(partsU u).map fun l=>[encB true l]) (by simp) hb (by simp[partsU]) (rowsT_free _) rfl)) less_catV,trivial⟩ (by intro v hv;obtain rfl:=List.mem_singleton.1 hv;exact catV_cold _) (one_none hb) (encB_fresh _)
 ·intro b ob hm
  obtain⟨rfl,rfl⟩:b=1∧ob=_:=by simpa using hm
  rfl
 conv=>whnf
 refine⟨by kernel_rfl,?_⟩
 conv=>whnf
 exact(Ends.pA)
theorem two20_own (n:Nat) (hn:n < 65536):OCon prog 171 [cI n] true true 5 1 2 (rowsB (twoB n)):=by
 refine callV_of (fn:=Go.Proofs.Tryz.f171) (body:=_) tab_ok mixed rfl rfl (by decide) (by simp[Go.Proofs.Tryz.f171]) ?_
 conv=>whnf
 refine⟨by decide,?_⟩
 conv=>whnf
 refine⟨by decide,?_⟩
 conv=>whnf
 refine own1 (bs:=twoB n) rfl ?_ rfl
 have e1:((n:Int).tdiv 256)=((n / 256:Nat):Int):=by rw[Int.tdiv_eq_ediv_of_nonneg (by omega)];rfl
 have e2:((n:Int).tmod 256)=((n % 256:Nat):Int):=by rw[Int.tmod_eq_emod_of_nonneg (by omega)];rfl
 rw[e1,e2]
 simp only[twoB,rowsB,List.map_cons,List.map_nil]
 rw[show IntKind.i64.wrap ((n / 256:Nat):Int)=((n / 256:Nat):Int)by rw[wrap64 (by omega) (by omega)],u8_nat,u8_nat]
 have:UInt8.ofNat (n % 256)=UInt8.ofNat n:=by apply UInt8.toNat_inj.1;simp
 rw[this]
theorem cI_cold (n:Nat):∀v∈[cI n],Cold v:=by
 intro v hv
 obtain rfl:=List.mem_singleton.1 hv
 exact .int
theorem bytes_ok {n:Nat} (h:n≤100000):n * (tab 5).bytes≤140737488355328∧n≤140737488355328:=⟨by show n * 1≤_;omega,by omega⟩
theorem twoB_len (n:Nat):(twoB n).length=2:=rfl
theorem rraw_own (fr:Bool) (u:Upd) (hs:Small u) (hg:okPs u.gone) (hn:okPs u.new) (h0:u.new=[]→rightA u.attrs=false) (hr:u.new ≠ []→rightA u.attrs=true):OCon prog 136 [encU fr u] true false 5 1 (bodyB u).length (rowsB (bodyB u)):=by
 have h1:=aB_len hs.few
 have h2:=gB_len hs.gone
 have h3:=bodyB_len hs
 refine callV_of (fn:=Go.Proofs.Tryz.f136) (body:=_) tab_ok mixed rfl rfl (by decide) (by simp[Go.Proofs.Tryz.f136]) ?_
 conv=>whnf
 refine callV_pure (rlaid_ok fr u.gone hs.gone hg) ⟨.fr rfl,trivial⟩ ?_
 conv=>whnf
 intro _
 conv=>whnf
 have hg2:(gB u).length < 65536:=by omega
 have hP:=prefsB_len u.new
 have hnl:=hs.new
 have hgl:(prefsB u.gone).length≤5000:=h2
 split
 ·rename_i hc
  have hne:u.new ≠ []:=by intro e;rw[e]at hc;simp at hc
  have ea:aB u=rawA u.attrs:=by rw[aB,aA,if_pos (hr hne),rawP_eq]
  have rr:=ref_raw_ok fr u.attrs hs.few
  rw[← ea]at rr
  conv=>whnf
  refine callV_pure rr ⟨.fr rfl,trivial⟩ ?_
  conv=>whnf
  refine fun(_:gd none _)=>?_
  conv=>whnf
  refine callV_own [] (two20_own (gB u).length hg2) ⟨.int_of (by simp[gB]),trivial⟩ (cI_cold _) (by simp) (rowsB_ff _) ?_
  conv=>whnf
  refine⟨⟨rfl,rfl,rfl,rfl,by decide⟩,(by simp[twoB_len];try omega),bytes_ok (by simp[twoB_len];omega),?_⟩
  conv=>whnf
  try refine fun(_:gd none _)=>?_
  conv=>whnf
  refine callV_own [] (two20_own (aB u).length (by omega)) ⟨.int_of (by simp[ea]),trivial⟩ (cI_cold _) (by simp) (rowsB_ff _) ?_
  conv=>whnf
  refine⟨rfl,by simp[twoB_len],⟨rfl,rfl,rfl,rfl,by decide⟩,(by simp[twoB_len];try omega),bytes_ok (by simp[twoB_len];omega),?_⟩
  conv=>whnf
  refine⟨⟨rfl,rfl,rfl,rfl,by decide⟩,(by simp[twoB_len];try omega),bytes_ok (by simp[twoB_len];omega),?_⟩
  conv=>whnf
  refine callV_pure (rlaid_ok fr u.new hs.new hn) ⟨.fr rfl,trivial⟩ ?_
  conv=>whnf
  refine⟨⟨rfl,rfl,rfl,rfl,by decide⟩,(by simp[twoB_len];try omega),bytes_ok (by simp[twoB_len];omega),?_⟩
  conv=>whnf
  exact own1 (bs:=bodyB u) rfl (by simp(disch:=(simp[twoB_len,rowsB]<;>omega)) only[rowsB,List.take_of_length_le,List.length_map,List.drop_zero];simp[bodyB,partsU,gB,ea]) (by simp[bodyB,partsU,gB,ea,twoB_len];try omega)
 ·rename_i hc
  have hne:u.new=[]:=by simpa using hc
  have ea:aB u=[]:=by rw[aB,aA,if_neg (by simp[h0 hne])]
  conv=>whnf
  refine fun(_:gd none _)=>?_
  conv=>whnf
  refine callV_own [] (two20_own (gB u).length hg2) ⟨.int_of (by simp[gB]),trivial⟩ (cI_cold _) (by simp) (rowsB_ff _) ?_
  conv=>whnf
  refine⟨⟨rfl,rfl,rfl,rfl,by decide⟩,(by simp[twoB_len];try omega),bytes_ok (by simp[twoB_len];omega),?_⟩
  conv=>whnf
  try refine fun(_:gd none _)=>?_
  conv=>whnf
  refine callV_own [] (two20_own (aB u).length (by omega)) ⟨.int_of (by simp[ea]),trivial⟩ (cI_cold _) (by simp) (rowsB_ff _) ?_
  conv=>whnf
  refine⟨rfl,by simp[twoB_len],⟨rfl,rfl,rfl,rfl,by decide⟩,(by simp[twoB_len];try omega),bytes_ok (by simp[twoB_len];omega),?_⟩
  conv=>whnf
  refine⟨_,⟨rfl,rfl,rfl,rfl,by decide⟩,(by simp[twoB_len];try omega),bytes_ok (by simp[twoB_len];omega),?_⟩
  conv=>whnf
  refine callV_pure (rlaid_ok fr u.new hs.new hn) ⟨.fr rfl,trivial⟩ ?_
  conv=>whnf
  refine⟨⟨rfl,rfl,rfl,rfl,by decide⟩,(by simp[twoB_len];try omega),bytes_ok (by simp[twoB_len];omega),?_⟩
  conv=>whnf
  exact own1 (bs:=bodyB u) rfl (by simp(disch:=(simp[twoB_len,rowsB]<;>omega)) only[rowsB,List.take_of_length_le,List.length_map,List.drop_zero];simp[bodyB,partsU,gB,ea]) (by simp[bodyB,partsU,gB,ea,twoB_len];try omega)
end
section
open Go.Proofs.Tryz (prog)
attribute [local irreducible] CallV RoundV aggK
def saidU (u:Upd):Bool:=if u.new=[]then sameA u.attrs noA else rightA u.attrs
def mayU (u:Upd):Bool:=riseP u.gone && riseP u.new && apartP u.gone u.new && saidU u
def checkU (u:Upd):Int:=if mayU u then(if 493 < (bodyB u).length then 3 else 0)else 2
theorem okPs_rise {l:List Prefix} (h:riseP l=true):okPs l:=fun p hp=>by
 obtain⟨j,hj,rfl⟩:=List.getElem_of_mem hp
 exact(riseP_iff.1 h j hj).1
theorem mayU_out {u:Upd} (h:mayU u=true):riseP u.gone=true∧riseP u.new=true∧apartP u.gone u.new=true∧saidU u=true:=by
 simp only[mayU,Bool.and_eq_true]at h
 exact⟨h.1.1.1,h.1.1.2,h.1.2,h.2⟩
theorem noA_right:rightA noA=false:=by decide
theorem saidU_nil {u:Upd} (h0:u.new=[]) (h:saidU u=true):rightA u.attrs=false:=by
 simp only[saidU,if_pos h0,sameA,decide_eq_true_eq]at h
 rw[h];exact noA_right
theorem saidU_some {u:Upd} (h0:u.new ≠ []) (h:saidU u=true):rightA u.attrs=true:=by
 simpa only[saidU,if_neg h0]using h
theorem ucheck_ok (fr:Bool) (u:Upd) (hs:Small u):PCon prog 29 [encU fr u] (.int .i64 (checkU u)):=by
 have c1:=urise_ok fr u.gone hs.gone
 have c2:=urise_ok fr u.new hs.new
 have c3:=uapart_ok fr fr u.gone u.new
 refine callV_of (fn:=Go.Proofs.Tryz.f29) (body:=_) tab_ok mixed rfl rfl (by decide) (by simp[Go.Proofs.Tryz.f29]) ?_
 conv=>whnf
 refine callV_pure (same_ok fr true u.attrs noA) ⟨.fr rfl,.noA,trivial⟩ ?_
 by_cases hn:u.new=[]
 ·have hlen:u.new.length=0:=by rw[hn];rfl
  cases hsame:sameA u.attrs noA with
  | false=>
   have hsd:saidU u=false:=by simp[saidU,hn,hsame]
   conv=>whnf
   refine fun(_:gd none _)=>?_
   conv=>whnf
   split
   ·rename_i hc;exfalso;simp[hn]at hc
   conv=>whnf
   refine callV_pure c1 ⟨.fr rfl,trivial⟩ ?_
   cases h1:riseP u.gone with
   | false=>
    conv=>whnf
    exact(Ends.pure [] (by repeat' (first|exact True.intro|exact .int_of (by simp[checkU,mayU,h1])|exact .A|exact LeL.fr rfl|refine .tupL ?_|refine .aggL ?_|refine⟨?_,?_⟩)) (by simp))
   | true=>
    conv=>whnf
    refine callV_pure c2 ⟨.fr rfl,trivial⟩ ?_
    cases h2:riseP u.new with
    | false=>
     conv=>whnf
     exact(Ends.pure [] (by repeat' (first|exact True.intro|exact .int_of (by simp[checkU,mayU,h2])|exact .A|exact LeL.fr rfl|refine .tupL ?_|refine .aggL ?_|refine⟨?_,?_⟩)) (by simp))
    | true=>
     conv=>whnf
     refine callV_pure c3 ⟨.fr rfl,.fr rfl,trivial⟩ ?_
     cases h3:apartP u.gone u.new with
     | false=>
      conv=>whnf
      exact(Ends.pure [] (by repeat' (first|exact True.intro|exact .int_of (by simp[checkU,mayU,h3])|exact .A|exact LeL.fr rfl|refine .tupL ?_|refine .aggL ?_|refine⟨?_,?_⟩)) (by simp))
     | true=>
      conv=>whnf
      exact(Ends.pure [] (by repeat' (first|exact True.intro|exact .int_of (by simp[checkU,mayU,hsd])|exact .A|exact LeL.fr rfl|refine .tupL ?_|refine .aggL ?_|refine⟨?_,?_⟩)) (by simp))
  | true=>
   have hsd:saidU u=true:=by simp[saidU,hn,hsame]
   conv=>whnf
   refine fun(_:gd none _)=>?_
   conv=>whnf
   split
   ·rename_i hc;exfalso;simp[hn]at hc
   conv=>whnf
   refine callV_pure c1 ⟨.fr rfl,trivial⟩ ?_
   cases h1:riseP u.gone with
   | false=>
    conv=>whnf
    exact(Ends.pure [] (by repeat' (first|exact True.intro|exact .int_of (by simp[checkU,mayU,h1])|exact .A|exact LeL.fr rfl|refine .tupL ?_|refine .aggL ?_|refine⟨?_,?_⟩)) (by simp))
   | true=>
    conv=>whnf
    refine callV_pure c2 ⟨.fr rfl,trivial⟩ ?_
    cases h2:riseP u.new with
    | false=>
     conv=>whnf
     exact(Ends.pure [] (by repeat' (first|exact True.intro|exact .int_of (by simp[checkU,mayU,h2])|exact .A|exact LeL.fr rfl|refine .tupL ?_|refine .aggL ?_|refine⟨?_,?_⟩)) (by simp))
    | true=>
     conv=>whnf
     refine callV_pure c3 ⟨.fr rfl,.fr rfl,trivial⟩ ?_
     cases h3:apartP u.gone u.new with
     | false=>
      conv=>whnf
      exact(Ends.pure [] (by repeat' (first|exact True.intro|exact .int_of (by simp[checkU,mayU,h3])|exact .A|exact LeL.fr rfl|refine .tupL ?_|refine .aggL ?_|refine⟨?_,?_⟩)) (by simp))
     | true=>
      conv=>whnf
      refine callV_pure (uraw_ok fr u hs (okPs_rise h1) (okPs_rise h2)) ⟨.fr rfl,trivial⟩ ?_
      conv=>whnf
      refine fun(_:gd none _)=>?_
      conv=>whnf
      split
      ·rename_i hb
       have hb:493 < (bodyB u).length:=by have:=of_decide_eq_true hb;simp only[List.length_map]at this;omega
       conv=>whnf
       exact(Ends.pure [] (by repeat' (first|exact True.intro|exact .int_of (by simp[checkU,mayU,hsd,h1,h2,h3,hb])|exact .A|exact LeL.fr rfl|refine .tupL ?_|refine .aggL ?_|refine⟨?_,?_⟩)) (by simp))
      ·rename_i hb
       have hb:¬ 493 < (bodyB u).length:=by have:=of_decide_eq_false hb;simp only[List.length_map]at this;omega
       conv=>whnf
       exact(Ends.pure [] (by repeat' (first|exact True.intro|exact .int_of (by simp[checkU,mayU,hsd,h1,h2,h3,hb])|exact .A|exact LeL.fr rfl|refine .tupL ?_|refine .aggL ?_|refine⟨?_,?_⟩)) (by simp))
 ·have hlen:0 < u.new.length:=List.length_pos_iff.2 hn
  conv=>whnf
  refine fun(_:gd none _)=>?_
  conv=>whnf
  split
  rotate_left
  ·rename_i hc;exfalso;simp at hc;exact hn hc
  conv=>whnf
  refine callV_pure (check_ok fr u.attrs) ⟨.fr rfl,trivial⟩ ?_
  cases hright:rightA u.attrs with
  | false=>
   have hsd:saidU u=false:=by simp[saidU,hn,hright]
   rw[checkA_no hright]
   conv=>whnf
   refine callV_pure c1 ⟨.fr rfl,trivial⟩ ?_
   cases h1:riseP u.gone with
   | false=>
    conv=>whnf
    exact(Ends.pure [] (by repeat' (first|exact True.intro|exact .int_of (by simp[checkU,mayU,h1])|exact .A|exact LeL.fr rfl|refine .tupL ?_|refine .aggL ?_|refine⟨?_,?_⟩)) (by simp))
   | true=>
    conv=>whnf
    refine callV_pure c2 ⟨.fr rfl,trivial⟩ ?_
    cases h2:riseP u.new with
    | false=>
     conv=>whnf
     exact(Ends.pure [] (by repeat' (first|exact True.intro|exact .int_of (by simp[checkU,mayU,h2])|exact .A|exact LeL.fr rfl|refine .tupL ?_|refine .aggL ?_|refine⟨?_,?_⟩)) (by simp))
    | true=>
     conv=>whnf
     refine callV_pure c3 ⟨.fr rfl,.fr rfl,trivial⟩ ?_
     cases h3:apartP u.gone u.new with
     | false=>
      conv=>whnf
      exact(Ends.pure [] (by repeat' (first|exact True.intro|exact .int_of (by simp[checkU,mayU,h3])|exact .A|exact LeL.fr rfl|refine .tupL ?_|refine .aggL ?_|refine⟨?_,?_⟩)) (by simp))
     | true=>
      conv=>whnf
      exact(Ends.pure [] (by repeat' (first|exact True.intro|exact .int_of (by simp[checkU,mayU,hsd])|exact .A|exact LeL.fr rfl|refine .tupL ?_|refine .aggL ?_|refine⟨?_,?_⟩)) (by simp))
  | true=>
   have hsd:saidU u=true:=by simp[saidU,hn,hright]
   rw[checkA_yes hright]
   conv=>whnf
   refine callV_pure c1 ⟨.fr rfl,trivial⟩ ?_
   cases h1:riseP u.gone with
   | false=>
    conv=>whnf
    exact(Ends.pure [] (by repeat' (first|exact True.intro|exact .int_of (by simp[checkU,mayU,h1])|exact .A|exact LeL.fr rfl|refine .tupL ?_|refine .aggL ?_|refine⟨?_,?_⟩)) (by simp))
   | true=>
    conv=>whnf
    refine callV_pure c2 ⟨.fr rfl,trivial⟩ ?_
    cases h2:riseP u.new with
    | false=>
     conv=>whnf
     exact(Ends.pure [] (by repeat' (first|exact True.intro|exact .int_of (by simp[checkU,mayU,h2])|exact .A|exact LeL.fr rfl|refine .tupL ?_|refine .aggL ?_|refine⟨?_,?_⟩)) (by simp))
    | true=>
     conv=>whnf
     refine callV_pure c3 ⟨.fr rfl,.fr rfl,trivial⟩ ?_
     cases h3:apartP u.gone u.new with
     | false=>
      conv=>whnf
      exact(Ends.pure [] (by repeat' (first|exact True.intro|exact .int_of (by simp[checkU,mayU,h3])|exact .A|exact LeL.fr rfl|refine .tupL ?_|refine .aggL ?_|refine⟨?_,?_⟩)) (by simp))
     | true=>
      conv=>whnf
      refine callV_pure (uraw_ok fr u hs (okPs_rise h1) (okPs_rise h2)) ⟨.fr rfl,trivial⟩ ?_
      conv=>whnf
      refine fun(_:gd none _)=>?_
      conv=>whnf
      split
      ·rename_i hb
       have hb:493 < (bodyB u).length:=by have:=of_decide_eq_true hb;simp only[List.length_map]at this;omega
       conv=>whnf
       exact(Ends.pure [] (by repeat' (first|exact True.intro|exact .int_of (by simp[checkU,mayU,hsd,h1,h2,h3,hb])|exact .A|exact LeL.fr rfl|refine .tupL ?_|refine .aggL ?_|refine⟨?_,?_⟩)) (by simp))
      ·rename_i hb
       have hb:¬ 493 < (bodyB u).length:=by have:=of_decide_eq_false hb;simp only[List.length_map]at this;omega
       conv=>whnf
       exact(Ends.pure [] (by repeat' (first|exact True.intro|exact .int_of (by simp[checkU,mayU,hsd,h1,h2,h3,hb])|exact .A|exact LeL.fr rfl|refine .tupL ?_|refine .aggL ?_|refine⟨?_,?_⟩)) (by simp))
theorem rraw_ok (fr:Bool) (u:Upd) (hs:Small u) (hg:okPs u.gone) (hn:okPs u.new) (h0:u.new=[]→rightA u.attrs=false) (hr:u.new ≠ []→rightA u.attrs=true):PCon prog 136 [encU fr u] (encB true (bodyB u)):=by
 have:=PCon.of_own (rraw_own fr u hs hg hn h0 hr) (by simp[rowsB]) (rowsB_free _)
 rwa [List.take_of_length_le (by simp[rowsB])]at this
theorem rcheck_ok (fr:Bool) (u:Upd) (hs:Small u):PCon prog 85 [encU fr u] (.int .i64 (checkU u)):=by
 have c1:=refRise_ok fr u.gone
 have c2:=refRise_ok fr u.new
 have c3:=refApart_ok fr fr u.gone u.new
 refine callV_of (fn:=Go.Proofs.Tryz.f85) (body:=_) tab_ok mixed rfl rfl (by decide) (by simp[Go.Proofs.Tryz.f85]) ?_
 conv=>whnf
 refine callV_pure c1 ⟨.fr rfl,trivial⟩ ?_
 cases h1:riseP u.gone with
 | false=>
  conv=>whnf
  exact(Ends.pure [] (by repeat' (first|exact True.intro|exact .int_of (by simp[checkU,mayU,h1])|exact .A|exact LeL.fr rfl|refine .tupL ?_|refine .aggL ?_|refine⟨?_,?_⟩)) (by simp))
 | true=>
 conv=>whnf
 refine callV_pure c2 ⟨.fr rfl,trivial⟩ ?_
 cases h2:riseP u.new with
 | false=>
  conv=>whnf
  exact(Ends.pure [] (by repeat' (first|exact True.intro|exact .int_of (by simp[checkU,mayU,h2])|exact .A|exact LeL.fr rfl|refine .tupL ?_|refine .aggL ?_|refine⟨?_,?_⟩)) (by simp))
 | true=>
 conv=>whnf
 refine callV_pure c3 ⟨.fr rfl,.fr rfl,trivial⟩ ?_
 cases h3:apartP u.gone u.new with
 | false=>
  conv=>whnf
  exact(Ends.pure [] (by repeat' (first|exact True.intro|exact .int_of (by simp[checkU,mayU,h3])|exact .A|exact LeL.fr rfl|refine .tupL ?_|refine .aggL ?_|refine⟨?_,?_⟩)) (by simp))
 | true=>
 conv=>whnf
 refine fun(_:gd none _)=>?_
 conv=>whnf
 split
 ·rename_i hlen
  have hn:u.new ≠ []:=by intro e;rw[e]at hlen;simp at hlen
  conv=>whnf
  refine callV_pure (right_ok fr u.attrs) ⟨.fr rfl,trivial⟩ ?_
  cases hright:rightA u.attrs with
  | false=>
   have hsd:saidU u=false:=by simp[saidU,hn,hright]
   conv=>whnf
   exact(Ends.pure [] (by repeat' (first|exact True.intro|exact .int_of (by simp[checkU,mayU,hsd])|exact .A|exact LeL.fr rfl|refine .tupL ?_|refine .aggL ?_|refine⟨?_,?_⟩)) (by simp))
  | true=>
   have hsd:saidU u=true:=by simp[saidU,hn,hright]
   conv=>whnf
   refine fun(_:gd none _)=>?_
   conv=>whnf
   split
   ·rename_i hc;exfalso;simp at hc;exact hn hc
   conv=>whnf
   refine callV_pure (rraw_ok fr u hs (okPs_rise h1) (okPs_rise h2) (fun h=>absurd h hn) (fun _=>hright)) ⟨.fr rfl,trivial⟩ ?_
   conv=>whnf
   refine fun(_:gd none _)=>?_
   conv=>whnf
   split
   ·rename_i hb
    have hb:493 < (bodyB u).length:=by have:=of_decide_eq_true hb;simp only[List.length_map]at this;omega
    conv=>whnf
    exact(Ends.pure [] (by repeat' (first|exact True.intro|exact .int_of (by simp[checkU,mayU,hsd,h1,h2,h3,hb])|exact .A|exact LeL.fr rfl|refine .tupL ?_|refine .aggL ?_|refine⟨?_,?_⟩)) (by simp))
   ·rename_i hb
    have hb:¬ 493 < (bodyB u).length:=by have:=of_decide_eq_false hb;simp only[List.length_map]at this;omega
    conv=>whnf
    exact(Ends.pure [] (by repeat' (first|exact True.intro|exact .int_of (by simp[checkU,mayU,hsd,h1,h2,h3,hb])|exact .A|exact LeL.fr rfl|refine .tupL ?_|refine .aggL ?_|refine⟨?_,?_⟩)) (by simp))
 ·rename_i hlen
  have hn:u.new=[]:=by simpa using hlen
  conv=>whnf
  refine fun(_:gd none _)=>?_
  conv=>whnf
  split
  rotate_left
  ·rename_i hc;exfalso;simp[hn]at hc
  conv=>whnf
  refine callV_pure (ref_same_ok fr true u.attrs noA) ⟨.fr rfl,.noA,trivial⟩ ?_
  cases hsame:sameA u.attrs noA with
  | false=>
   have hsd:saidU u=false:=by simp[saidU,hn,hsame]
   conv=>whnf
   exact(Ends.pure [] (by repeat' (first|exact True.intro|exact .int_of (by simp[checkU,mayU,hsd])|exact .A|exact LeL.fr rfl|refine .tupL ?_|refine .aggL ?_|refine⟨?_,?_⟩)) (by simp))
  | true=>
   have hsd:saidU u=true:=by simp[saidU,hn,hsame]
   have hno:=saidU_nil hn hsd
   conv=>whnf
   refine callV_pure (rraw_ok fr u hs (okPs_rise h1) (okPs_rise h2) (fun _=>hno) (fun h=>absurd hn h)) ⟨.fr rfl,trivial⟩ ?_
   conv=>whnf
   refine fun(_:gd none _)=>?_
   conv=>whnf
   split
   ·rename_i hb
    have hb:493 < (bodyB u).length:=by have:=of_decide_eq_true hb;simp only[List.length_map]at this;omega
    conv=>whnf
    exact(Ends.pure [] (by repeat' (first|exact True.intro|exact .int_of (by simp[checkU,mayU,hsd,h1,h2,h3,hb])|exact .A|exact LeL.fr rfl|refine .tupL ?_|refine .aggL ?_|refine⟨?_,?_⟩)) (by simp))
   ·rename_i hb
    have hb:¬ 493 < (bodyB u).length:=by have:=of_decide_eq_false hb;simp only[List.length_map]at this;omega
    conv=>whnf
    exact(Ends.pure [] (by repeat' (first|exact True.intro|exact .int_of (by simp[checkU,mayU,hsd,h1,h2,h3,hb])|exact .A|exact LeL.fr rfl|refine .tupL ?_|refine .aggL ?_|refine⟨?_,?_⟩)) (by simp))
end
def keysE {α:Type} (l:List (Prefix × α)):List Prefix:=l.map fun e=>e.1
def getE {α:Type} (l:List (Prefix × α)) (p:Prefix):Option α:=(l.find? fun e=>decide (e.1=p)).map fun e=>e.2
def putE {α:Type} (l:List (Prefix × α)) (p:Prefix) (a:α):List (Prefix × α):=if p∈keysE l then l.map (fun e=>if e.1=p then(p,a)else e)else l ++ [(p,a)]
def delE {α:Type} (l:List (Prefix × α)) (p:Prefix):List (Prefix × α):=l.filter fun e=>!decide (e.1=p)
def NodE {α:Type} (l:List (Prefix × α)):Prop:=(keysE l).Nodup
def RisE {α:Type} (l:List (Prefix × α)):Prop:=(keysE l).Pairwise fun x y=>pkey x < pkey y
theorem RisE.nod {α:Type} {l:List (Prefix × α)} (h:RisE l):NodE l:=nodup_of_strict h
theorem getE_mem {α:Type} {l:List (Prefix × α)} {p:Prefix} {a:α} (h:getE l p=some a):(p,a)∈l:=by
 simp only[getE,Option.map_eq_some_iff]at h
 obtain⟨e,he,rfl⟩:=h
 have h1:=List.find?_some he
 have h1:e.1=p:=by simpa using h1
 subst h1
 exact List.mem_of_find?_eq_some he
theorem mem_getE {α:Type} {p:Prefix} {a:α}:∀{l:List (Prefix × α)},NodE l→(p,a)∈l→getE l p=some a
 | e :: l,hn,h=>by
  simp only[NodE,keysE,List.map_cons,List.nodup_cons]at hn
  by_cases he:e.1=p
  ·have:e=(p,a):=by
    rcases List.mem_cons.1 h with h|h
    ·exact h.symm
    ·exact absurd (List.mem_map.2 ⟨_,h,rfl⟩) (he▸hn.1)
   subst this
   simp[getE]
  ·have h:(p,a)∈l:=by
    rcases List.mem_cons.1 h with h|h
    ·exact absurd (h▸rfl) he
    ·exact h
   have ih:=mem_getE (l:=l) hn.2 h
   simp only[getE,List.find?_cons,decide_eq_false he]at ih ⊢
   exact ih
theorem getE_iff {α:Type} {l:List (Prefix × α)} (hn:NodE l) {p:Prefix} {a:α}:getE l p=some a↔(p,a)∈l:=⟨getE_mem,mem_getE hn⟩
theorem getE_none {α:Type} {l:List (Prefix × α)} {p:Prefix}:getE l p=none↔p ∉ keysE l:=by
 simp only[getE,Option.map_eq_none_iff,List.find?_eq_none,keysE,List.mem_map,not_exists,not_and,decide_eq_true_eq]
theorem getE_key {α:Type} {l:List (Prefix × α)} {p:Prefix} {a:α} (h:getE l p=some a):p∈keysE l:=List.mem_map.2 ⟨_,getE_mem h,rfl⟩
theorem key_getE {α:Type} {l:List (Prefix × α)} {p:Prefix} (h:p∈keysE l):∃a,getE l p=some a:=by
 cases hg:getE l p with
 | some a=>exact⟨a,rfl⟩
 | none=>exact absurd h (getE_none.1 hg)
theorem NodE.nodup {α:Type} {l:List (Prefix × α)} (h:NodE l):l.Nodup:=by
 unfold NodE keysE at h
 exact List.Pairwise.imp (fun h e=>h (by rw[e])) (List.pairwise_map.1 h)
theorem perm_getE {α:Type} {l l':List (Prefix × α)} (hn:NodE l) (hn':NodE l') (h:∀p,getE l p=getE l' p):l.Perm l':=by
 rw[List.perm_ext_iff_of_nodup hn.nodup hn'.nodup]
 rintro ⟨p,a⟩
 rw[← getE_iff hn,← getE_iff hn',h]
theorem NodE.perm {α:Type} {l l':List (Prefix × α)} (hn:NodE l) (h:l.Perm l'):NodE l':=(h.map _).nodup_iff.1 hn
theorem getE_perm {α:Type} {l l':List (Prefix × α)} (hn:NodE l) (h:l.Perm l') (p:Prefix):getE l p=getE l' p:=by
 have hn':=hn.perm h
 cases hg:getE l p with
 | some a=>exact((getE_iff hn').2 (h.mem_iff.1 ((getE_iff hn).1 hg))).symm
 | none=>
  cases hg':getE l' p with
  | none=>rfl
  | some a=>
   rw[(getE_iff hn).2 (h.mem_iff.2 ((getE_iff hn').1 hg'))]at hg
   cases hg
theorem strict_eq {a b:List Prefix} (h1:a.Pairwise fun x y=>pkey x < pkey y) (h2:b.Pairwise fun x y=>pkey x < pkey y) (h:∀p,p∈a↔p∈b):a=b:=
 sorted_eq ((List.perm_ext_iff_of_nodup (nodup_of_strict h1) (nodup_of_strict h2)).2 h) (h1.imp Nat.le_of_lt) (h2.imp Nat.le_of_lt)
theorem eq_of_keys {α:Type}:∀{l l':List (Prefix × α)},NodE l→keysE l=keysE l'→l.Perm l'→l=l'
 | [],[],_,_,_=>rfl
 | [],_ :: _,_,hk,_=>by simp[keysE]at hk
 | _ :: _,[],_,hk,_=>by simp[keysE]at hk
 | e :: l,e' :: l',hn,hk,hp=>by
  simp only[keysE,List.map_cons,List.cons.injEq]at hk
  have hm:(e.1,e.2)∈e' :: l':=hp.mem_iff.1 (by simp)
  have h1:=mem_getE (hn.perm hp) hm
  have h2:getE (e' :: l') e.1=some e'.2:=by simp[getE,hk.1]
  have he:e=e':=Prod.ext hk.1 (Option.some.inj (h1.symm.trans h2))
  subst he
  have hn2:NodE l:=by simp only[NodE,keysE,List.map_cons,List.nodup_cons]at hn;exact hn.2
  rw[eq_of_keys hn2 hk.2 ((List.perm_cons e).1 hp)]
theorem rise_eq {α:Type} {l l':List (Prefix × α)} (h1:RisE l) (h2:RisE l') (hp:l.Perm l'):l=l':=
 eq_of_keys h1.nod (strict_eq h1 h2 fun p=>(hp.map fun e:Prefix × α=>e.1).mem_iff) hp
theorem keys_put_in {α:Type} {l:List (Prefix × α)} {p:Prefix} {a:α} (h:p∈keysE l):keysE (putE l p a)=keysE l:=by
 unfold putE
 rw[if_pos h]
 simp only[keysE,List.map_map]
 apply List.map_congr_left
 intro e he
 simp only[Function.comp]
 split
 ·rename_i h;exact h.symm
 ·rfl
theorem keys_put_new {α:Type} {l:List (Prefix × α)} {p:Prefix} {a:α} (h:p ∉ keysE l):keysE (putE l p a)=keysE l ++ [p]:=by
 unfold putE
 rw[if_neg h]
 simp[keysE]
theorem nod_put {α:Type} {l:List (Prefix × α)} {p:Prefix} {a:α} (hn:NodE l):NodE (putE l p a):=by
 unfold NodE
 by_cases h:p∈keysE l
 ·rw[keys_put_in h];exact hn
 ·rw[keys_put_new h,List.nodup_append]
  refine⟨hn,by simp,?_⟩
  intro x hx y hy
  simp at hy
  subst hy
  exact fun e=>h (e▸hx)
theorem getE_map_put {α:Type} {p q:Prefix} {a:α}:∀{l:List (Prefix × α)},p∈keysE l→getE (l.map fun e=>if e.1=p then(p,a)else e) q=if q=p then some a else getE l q
 | [],h=>by simp[keysE]at h
 | e :: l,h=>by
  by_cases he:e.1=p
  ·by_cases hq:q=p
   ·subst hq
    simp[getE,he]
   ·have e2:getE (l.map fun e=>if e.1=p then(p,a)else e) q=getE l q:=by
     by_cases h2:p∈keysE l
     ·rw[getE_map_put h2,if_neg hq]
     ·congr 1
      conv=>rhs;rw[← List.map_id l]
      apply List.map_congr_left
      intro x hx
      rw[if_neg fun e=>h2 (List.mem_map.2 ⟨x,hx,e⟩)]
      rfl
    rw[if_neg hq]
    simp only[getE,List.map_cons,if_pos he,List.find?_cons]at e2 ⊢
    rw[decide_eq_false (fun e=>hq e.symm),he,decide_eq_false (fun e=>hq e.symm)]
    exact e2
  ·have h2:p∈keysE l:=by
    simp only[keysE,List.map_cons,List.mem_cons]at h
    rcases h with h|h
    ·exact absurd h.symm he
    ·exact h
   have ih:=getE_map_put (q:=q) (a:=a) h2
   simp only[getE,List.map_cons,if_neg he,List.find?_cons]at ih ⊢
   by_cases hq:e.1=q
   ·rw[decide_eq_true hq]
    simp only[Option.map_some]
    rw[if_neg (fun e2=>he (hq.trans e2))]
   ·rw[decide_eq_false hq]
    exact ih
theorem getE_put {α:Type} {l:List (Prefix × α)} {p q:Prefix} {a:α}:getE (putE l p a) q=if q=p then some a else getE l q:=by
 unfold putE
 by_cases h:p∈keysE l
 ·rw[if_pos h,getE_map_put h]
 ·rw[if_neg h]
  have hnone:=getE_none.2 h
  simp only[getE,List.find?_append,Option.map_eq_none_iff]at hnone ⊢
  by_cases hq:q=p
  ·subst hq
   rw[hnone]
   simp
  ·rw[if_neg hq]
   have:List.find? (fun e=>decide (e.1=q)) [(p,a)]=none:=by simp[Ne.symm hq]
   rw[this,Option.or_none]
theorem keys_del {α:Type} {l:List (Prefix × α)} {p q:Prefix}:q∈keysE (delE l p)↔q ≠ p∧q∈keysE l:=by
 simp only[keysE,delE,List.mem_map,List.mem_filter,Bool.not_eq_true',decide_eq_false_iff_not]
 constructor
 ·rintro ⟨e,⟨h1,h2⟩,rfl⟩
  exact⟨h2,e,h1,rfl⟩
 ·rintro ⟨h1,e,h2,rfl⟩
  exact⟨e,⟨h2,h1⟩,rfl⟩
theorem nod_filter {α:Type} {l:List (Prefix × α)} (f:Prefix × α→Bool) (hn:NodE l):NodE (l.filter f):=List.Sublist.nodup (List.Sublist.map _ List.filter_sublist) hn
theorem ris_filter {α:Type} {l:List (Prefix × α)} (f:Prefix × α→Bool) (hn:RisE l):RisE (l.filter f):=List.Pairwise.sublist (List.Sublist.map _ List.filter_sublist) hn
theorem nod_del {α:Type} {l:List (Prefix × α)} {p:Prefix} (hn:NodE l):NodE (delE l p):=nod_filter _ hn
theorem getE_filter {α:Type} {l:List (Prefix × α)} (f:Prefix→Bool) (q:Prefix):getE (l.filter fun e=>f e.1) q=if f q then getE l q else none:=by
 induction l with
 | nil=>simp[getE]
 | cons e l ih=>
  simp only[getE]at ih ⊢
  rw[List.filter_cons]
  by_cases he:e.1=q
  ·subst he
   cases hf:f e.1 with
   | true=>simp
   | false=>simp only[hf,Bool.false_eq_true,if_false]at ih ⊢;exact ih
  ·cases hf:f e.1 with
   | true=>simp only[if_true,List.find?_cons,decide_eq_false he];exact ih
   | false=>simp only[Bool.false_eq_true,if_false,List.find?_cons,decide_eq_false he];exact ih
theorem getE_del {α:Type} {l:List (Prefix × α)} {p q:Prefix}:getE (delE l p) q=if q=p then none else getE l q:=by
 have h:=getE_filter (l:=l) (fun x=>!decide (x=p)) q
 simp only[Bool.not_eq_true',decide_eq_false_iff_not]at h
 rw[delE,h]
 by_cases hq:q=p<;>simp[hq]
structure Change where
 pfx:Prefix
 has:Bool
 attrs:Attrs
deriving DecidableEq
def chg (z:Attrs) (f g:Prefix→Option Attrs) (p:Prefix):Option Change:=if f p=g p then none else some ⟨p,(g p).isSome,(g p).getD z⟩
def withoutE {α:Type} (l:List (Prefix × α)) (gone:List Prefix):List (Prefix × α):=l.filter fun e=>!decide (e.1∈gone)
def stepX {α:Type} (x:Prefix × α) (s:List (Prefix × α) × Bool) (y:Prefix × α):List (Prefix × α) × Bool:=if s.2=false∧0 < cmpP y.1 x.1 then(s.1 ++ [x]++ [y],true)else(s.1 ++ [y],s.2)
def foldX {α:Type} (l:List (Prefix × α)) (x:Prefix × α):List (Prefix × α) × Bool:=l.foldl (stepX x) ([],false)
def withE {α:Type} (l:List (Prefix × α)) (x:Prefix × α):List (Prefix × α):=if(foldX l x).2 then(foldX l x).1 else(foldX l x).1 ++ [x]
def insE {α:Type} (x:Prefix × α):List (Prefix × α)→List (Prefix × α)
 | []=>[x]
 | y :: l=>if 0 < cmpP y.1 x.1 then x :: y :: l else y :: insE x l
theorem foldX_true {α:Type} (x:Prefix × α):∀(l acc:List (Prefix × α)),l.foldl (stepX x) (acc,true)=(acc ++ l,true)
 | [],acc=>by simp
 | y :: l,acc=>by
  rw[List.foldl_cons,stepX,if_neg (by simp),foldX_true x l]
  simp
theorem foldX_ins {α:Type} (x:Prefix × α):∀(l acc:List (Prefix × α)),(if(l.foldl (stepX x) (acc,false)).2 then(l.foldl (stepX x) (acc,false)).1 else(l.foldl (stepX x) (acc,false)).1 ++ [x])=acc ++ insE x l
 | [],acc=>by simp[insE]
 | y :: l,acc=>by
  rw[insE]
  by_cases h:0 < cmpP y.1 x.1
  ·have e:stepX x (acc,false) y=(acc ++ [x]++ [y],true):=by rw[stepX,if_pos ⟨rfl,h⟩]
   simp only[List.foldl_cons,e,foldX_true,if_true,if_pos h]
   simp
  ·have e:stepX x (acc,false) y=(acc ++ [y],false):=by rw[stepX,if_neg (by simp[h])]
   have ih:=foldX_ins x l (acc ++ [y])
   simp only[List.foldl_cons,e,if_neg h]
   rw[ih]
   simp
theorem withE_ins {α:Type} (l:List (Prefix × α)) (x:Prefix × α):withE l x=insE x l:=by
 have:=foldX_ins x l []
 rw[List.nil_append]at this
 exact this
theorem insE_perm {α:Type} (x:Prefix × α):∀l:List (Prefix × α),(insE x l).Perm (x :: l)
 | []=>.refl _
 | y :: l=>by
  rw[insE]
  split
  ·exact .refl _
  ·exact((insE_perm x l).cons y).trans (.swap x y l)
theorem insE_ris {α:Type} {x:Prefix × α}:∀{l:List (Prefix × α)},RisE l→x.1 ∉ keysE l→RisE (insE x l)
 | [],_,_=>by simp[RisE,keysE,insE]
 | y :: l,h,hx=>by
  have h1:(∀z∈keysE l,pkey y.1 < pkey z)∧RisE l:=by
   simp only[RisE,keysE,List.map_cons,List.pairwise_cons]at h
   exact h
  simp only[keysE,List.map_cons,List.mem_cons,not_or]at hx
  have hne:pkey x.1 ≠ pkey y.1:=fun e=>hx.1 (pkey_inj e)
  rw[insE]
  split
  ·rename_i hc
   have hlt:=(cmpP_gt _ _).1 hc
   simp only[RisE,keysE,List.map_cons,List.pairwise_cons,List.mem_cons]
   refine⟨?_,⟨h1.1,h1.2⟩⟩
   rintro z (rfl|hz)
   ·exact hlt
   ·exact Nat.lt_trans hlt (h1.1 z hz)
  ·rename_i hc
   have hlt:pkey y.1 < pkey x.1:=by
    have:¬ pkey x.1 < pkey y.1:=fun h=>hc ((cmpP_gt _ _).2 h)
    omega
   have ih:=insE_ris h1.2 hx.2
   simp only[RisE,keysE,List.map_cons,List.pairwise_cons]
   refine⟨fun z hz=>?_,ih⟩
   have hm:z∈keysE (x :: l):=((insE_perm x l).map fun e:Prefix × α=>e.1).mem_iff.1 hz
   simp only[keysE,List.map_cons,List.mem_cons]at hm
   rcases hm with rfl|hm
   ·exact hlt
   ·exact h1.1 z hm
theorem getE_cons {α:Type} {x:Prefix × α} {l:List (Prefix × α)} {q:Prefix}:getE (x :: l) q=if q=x.1 then some x.2 else getE l q:=by
 simp only[getE,List.find?_cons]
 by_cases h:q=x.1
 ·subst h;simp
 ·rw[if_neg h,decide_eq_false (fun e=>h e.symm)]
theorem getE_ins {α:Type} {x:Prefix × α} {l:List (Prefix × α)} (hr:RisE l) (hx:x.1 ∉ keysE l) (q:Prefix):getE (insE x l) q=if q=x.1 then some x.2 else getE l q:=by
 rw[getE_perm (insE_ris hr hx).nod (insE_perm x l),getE_cons]
def putsM {α:Type} (l:List (Prefix × α)) (new:List Prefix) (a:α):List (Prefix × α):=new.foldl (fun l p=>putE l p a) l
def delsM {α:Type} (l:List (Prefix × α)) (gone:List Prefix):List (Prefix × α):=gone.foldl delE l
def takeM {α:Type} (l:List (Prefix × α)) (gone new:List Prefix) (a:α):List (Prefix × α):=putsM (delsM l gone) new a
def takeS {α:Type} (l:List (Prefix × α)) (gone new:List Prefix) (a:α):List (Prefix × α):=new.foldl (fun l p=>withE l (p,a)) (withoutE (withoutE l gone) new)
theorem nod_dels {α:Type}:∀{gone:List Prefix} {l:List (Prefix × α)},NodE l→NodE (delsM l gone)
 | [],_,h=>h
 | p :: gone,_,h=>nod_dels (gone:=gone) (nod_del h)
theorem getE_dels {α:Type}:∀{gone:List Prefix} {l:List (Prefix × α)} {q:Prefix},getE (delsM l gone) q=if q∈gone then none else getE l q
 | [],l,q=>by simp[delsM]
 | p :: gone,l,q=>by
  show getE (delsM (delE l p) gone) q=_
  rw[getE_dels,getE_del]
  by_cases h1:q∈gone<;>by_cases h2:q=p<;>simp[h1,h2]
theorem nod_puts {α:Type} {a:α}:∀{new:List Prefix} {l:List (Prefix × α)},NodE l→NodE (putsM l new a)
 | [],_,h=>h
 | p :: new,_,h=>nod_puts (new:=new) (nod_put h)
theorem getE_puts {α:Type} {a:α}:∀{new:List Prefix} {l:List (Prefix × α)} {q:Prefix},getE (putsM l new a) q=if q∈new then some a else getE l q
 | [],l,q=>by simp[putsM]
 | p :: new,l,q=>by
  show getE (putsM (putE l p a) new a) q=_
  rw[getE_puts,getE_put]
  by_cases h1:q∈new<;>by_cases h2:q=p<;>simp[h1,h2]
theorem nod_take {α:Type} {l:List (Prefix × α)} {gone new:List Prefix} {a:α} (h:NodE l):NodE (takeM l gone new a):=nod_puts (nod_dels h)
theorem getE_take {α:Type} {l:List (Prefix × α)} {gone new:List Prefix} {a:α} {q:Prefix}:getE (takeM l gone new a) q=if q∈new then some a else if q∈gone then none else getE l q:=by
 rw[takeM,getE_puts,getE_dels]
theorem getE_without {α:Type} {l:List (Prefix × α)} {gone:List Prefix} {q:Prefix}:getE (withoutE l gone) q=if q∈gone then none else getE l q:=by
 have h:=getE_filter (l:=l) (fun x=>!decide (x∈gone)) q
 simp only[Bool.not_eq_true',decide_eq_false_iff_not]at h
 rw[withoutE,h]
 by_cases hq:q∈gone<;>simp[hq]
theorem ris_without {α:Type} {l:List (Prefix × α)} {gone:List Prefix} (h:RisE l):RisE (withoutE l gone):=ris_filter _ h
theorem withs_ok {α:Type} {a:α}:∀{new:List Prefix} {l:List (Prefix × α)},RisE l→new.Nodup→(∀p∈new,p ∉ keysE l) →
  RisE (new.foldl (fun l p=>withE l (p,a)) l)∧∀q,getE (new.foldl (fun l p=>withE l (p,a)) l) q=if q∈new then some a else getE l q
 | [],l,h,_,_=>⟨h,fun q=>by simp⟩
 | p :: new,l,h,hn,hk=>by
  have hp:=hk p (by simp)
  rw[List.nodup_cons]at hn
  have h1:RisE (withE l (p,a)):=by rw[withE_ins];exact insE_ris h hp
  have hg:∀q,getE (withE l (p,a)) q=if q=p then some a else getE l q:=fun q=>by rw[withE_ins];exact getE_ins h hp q
  have hk2:∀q∈new,q ∉ keysE (withE l (p,a)):=fun q hq=>by
   rw[← getE_none,hg,if_neg (fun e=>hn.1 (by rw[← e];exact hq)),getE_none]
   exact hk q (by simp[hq])
  obtain⟨r1,r2⟩:=withs_ok (a:=a) h1 hn.2 hk2
  refine⟨r1,fun q=>?_⟩
  rw[List.foldl_cons,r2,hg]
  by_cases h1:q∈new<;>by_cases h2:q=p<;>simp[h1,h2]
theorem takeS_ok {α:Type} {l:List (Prefix × α)} {gone new:List Prefix} {a:α} (h:RisE l) (hn:new.Nodup) :
  RisE (takeS l gone new a)∧∀q,getE (takeS l gone new a) q=if q∈new then some a else if q∈gone then none else getE l q:=by
 have h1:RisE (withoutE (withoutE l gone) new):=ris_without (ris_without h)
 have hk:∀p∈new,p ∉ keysE (withoutE (withoutE l gone) new):=fun p hp=>by rw[← getE_none,getE_without,if_pos hp]
 obtain⟨r1,r2⟩:=withs_ok (a:=a) h1 hn hk
 refine⟨r1,fun q=>?_⟩
 rw[takeS,r2,getE_without,getE_without]
 by_cases h1:q∈new<;>simp[h1]
theorem take_perm {α:Type} {l m:List (Prefix × α)} {gone new:List Prefix} {a:α} (h:RisE l) (hp:m.Perm l) (hn:new.Nodup):(takeM m gone new a).Perm (takeS l gone new a):=by
 obtain⟨r1,r2⟩:=takeS_ok (gone:=gone) (a:=a) h hn
 have hm:=h.nod.perm hp.symm
 exact perm_getE (nod_take hm) r1.nod fun p=>by rw[getE_take,r2,getE_perm hm hp]
section
open Go.Proofs.Tryz (prog)
attribute [local irreducible] CallV RoundV aggK
structure Peer where
 sys:UInt32
 id:UInt32
 addr:UInt32
 inner:Bool
deriving DecidableEq
def cellsPe (p:Peer):List V:=[cW p.sys,cW p.id,cW p.addr,.bool p.inner]
def encPe (p:Peer):V:=.agg (cellsPe p)
def esA (m:List (Prefix × Attrs)):List (V × V):=m.map fun e=>(encP e.1,encA false e.2)
theorem cellsPe_all (p:Peer):∀v∈cellsPe p,Free v∧Cold v∧Fresh v:=by
 intro v hv
 simp only[cellsPe,List.mem_cons,List.not_mem_nil,or_false]at hv
 rcases hv with rfl|rfl|rfl|rfl<;>first|exact⟨.int,.int,.int⟩|exact⟨.bool,.bool,.bool⟩
theorem encPe_free (p:Peer):Free (encPe p):=.agg fun v hv=>(cellsPe_all p v hv).1
theorem esA_free (m:List (Prefix × Attrs)):∀kv∈esA m,Free kv.1∧Free kv.2:=by
 intro kv h
 obtain⟨e,_,rfl⟩:=List.mem_map.1 h
 exact⟨encP_free _,encA_free _ _⟩
theorem esA_keys (m:List (Prefix × Attrs)):KeysV tab 31 (esA m):=by
 intro kv h
 obtain⟨e,_,rfl⟩:=List.mem_map.1 h
 exact keyP _
theorem imapA_free (m:List (Prefix × Attrs)):Free (.imap false (esA m)):=.imap fun kv h=>esA_free m kv h
instance {p}:FreeI (encPe p):=⟨⟨encPe_free p⟩⟩
instance {m}:FreeI (.imap false (esA m)):=⟨⟨imapA_free m⟩⟩
theorem clone_evo {G:Gh} {w:World} (o:Obj) (hr:HR G [] 0 w):Evo 0 G w ⟨fun b=>if b=0 then some w.heap.size else none,G.amb,G.B⟩ (w.alloc o):=by
 have hB:Below w.heap.size w (w.alloc o):=(Below.refl _ w).alloc (Nat.le_refl _) _
 refine⟨hB.os,hB.tape,hB.output,hB.size,rfl,fun c h=>h,fun c h=>hB.block c (hr.amb_lt c h),fun c m h=>?_,fun b c h=>by omega,fun c h _=>hB.block c h,fun c h _=>.inl h,fun b c h hlt=>?_⟩
 ·have hlt:c < w.heap.size:=by
   unfold csz at h
   split at h
   ·rename_i e
    exact(Array.getElem?_eq_some_iff.1 e).1
   ·cases h
  unfold csz at h ⊢
  rw[hB.block c hlt]
  exact h
 ·simp only at h
  split at h
  ·cases h;omega
  ·cases h
theorem imap_out {G:Gh} {w:World} {fr:Bool} {es:List (V × V)} {u:Value} (h:vr G w (.imap fr es) u):∃(c:Nat) (arr:Array MapEntry) (clk:Nat),u=.map (some c)∧w.heap[c]? = some (.map arr clk)∧EntOk arr clk∧es.length=arr.toList.length ∧
  ∀(j:Nat) (kv:V × V) (e:MapEntry),es[j]? = some kv→arr.toList[j]? = some e→vr G w kv.1 e.key∧vr G w kv.2 e.val:=by
 cases h with
 | imap _ _ c arr clk hc hok hl hk hv=>exact⟨c,arr,clk,rfl,rd_map.1 hc.1,hok,hl,fun j kv e h1 h2=>⟨hk j kv e h1 h2,hv j kv e h1 h2⟩⟩
theorem alloc_at (w:World) (o:Obj):(w.alloc o).heap[w.heap.size]? = some o:=(MapKept.heap_alloc w _).1
end
section
open Go.Proofs.Tryz (prog)
attribute [local irreducible] CallV RoundV aggK
def litW (x:UInt32):Lit:=.int .u32 (x.toNat:Int)
def litB (x:UInt8):Lit:=.int .u8 (x.toNat:Int)
def litsRu (r:Rule):List Lit:=[litW r.cover.addr,litB r.cover.len,litB r.least,litB r.most,.bool r.hasTag,litW r.tag,litW r.sys,.bool r.deny,.bool r.hasPref,.bool r.hasMed,.bool r.hasAdd,litW r.pref,litW r.med,litW r.add,litB r.times]
theorem litW_inj {x y:UInt32} (h:litW x=litW y):x=y:=by
 simp only[litW,Lit.int.injEq,true_and]at h
 exact UInt32.toNat_inj.1 (by omega)
theorem litB_inj {x y:UInt8} (h:litB x=litB y):x=y:=by
 simp only[litB,Lit.int.injEq,true_and]at h
 exact UInt8.toNat_inj.1 (by omega)
theorem litsRu_inj {r s:Rule}:litsRu r=litsRu s↔r=s:=by
 constructor
 ·intro h
  obtain⟨⟨a,b⟩,c,d,e,f,g,i,j,k,l,m,n,o,p⟩:=r
  obtain⟨⟨a',b'⟩,c',d',e',f',g',i',j',k',l',m',n',o',p'⟩:=s
  simp only[litsRu,List.cons.injEq,Lit.bool.injEq,and_true]at h
  obtain⟨h1,h2,h3,h4,h5,h6,h7,h8,h9,h10,h11,h12,h13,h14,h15⟩:=h
  rw[litW_inj h1,litB_inj h2,litB_inj h3,litB_inj h4,h5,litW_inj h6,litW_inj h7,h8,h9,h10,h11,litW_inj h12,litW_inj h13,litW_inj h14,litB_inj h15]
 ·exact fun h=>by rw[h]
theorem litRu (r:Rule) {K:List Lit→Prop} (h:K (litsRu r)):litK tab 60 132 (cellsRu r) K:=
 And.intro (wfW _) (And.intro (wfB _) (And.intro (wfB _) (And.intro (wfB _) (And.intro (wfW _) (And.intro (wfW _) (And.intro (wfW _) (And.intro (wfW _) (And.intro (wfW _) (And.intro (wfB _) h)))))))))
theorem neqRu (r s:Rule) {K:V→Prop} (h:K (.bool (!decide (r=s)))):aggK tab .neq 132 (cellsRu r) (cellsRu s) K:=by
 refine aggK_neq rfl rfl ?_
 refine litRu r ?_
 refine litRu s ?_
 exact⟨decide (r=s),by rw[litsRu_inj];simp,h⟩
theorem equalRu_ok (fr fr':Bool) (a b:List Rule):PCon prog 98 [encRus fr a,encRus fr' b] (.bool (decide (a=b))):=by
 refine callV_of (fn:=Go.Proofs.Tryz.f98) (body:=_) tab_ok mixed rfl rfl (by decide) (by simp[Go.Proofs.Tryz.f98]) ?_
 conv=>whnf
 intro ha
 have ha:a.length≤maxLen:=by simpa[gd]using ha
 conv=>whnf
 intro hb
 conv=>whnf
 split
 ·rename_i hne
  conv=>whnf
  refine Ends.pure [] (.bool_of ?_) (by simp)
  symm
  rw[decide_eq_false_iff_not]
  rintro rfl
  simp at hne
 ·rename_i hne
  have hlen:a.length=b.length:=by simp at hne;omega
  conv=>whnf
  intro _
  conv=>whnf
  refine vcg_loop tab_ok mixed (fun i:{i:Nat // i≤a.length∧a.take i=b.take i}=>⟨[(0,encRus fr a),(1,encRus fr' b),(12,cI a.length),(13,.int .i64 i.1)],[],0⟩) (fun i=>a.length - i.1) ⟨0,by omega,rfl⟩ (Wk.of id [] ⟨.free (encRus_free _ _),.free (encRus_free _ _),.int_of (by simp),.int_of rfl,trivial⟩ (LeH.nil (Nat.le_refl _) (fun b h=>by omega) (by simp))) (fun i=>?_)
  obtain⟨i,hi,hr⟩:=i
  conv=>whnf
  split
  ·rename_i hc
   have hc:i < a.length:=by simpa using hc
   have hc':i < b.length:=by omega
   conv=>whnf
   refine ixK (idxRu hc) ?_
   conv=>whnf
   refine ixK (idxRu hc') ?_
   conv=>whnf
   refine neqRu a[i] b[i] ?_
   conv=>whnf
   refine⟨by kernel_rfl,?_⟩
   conv=>whnf
   split
   ·rename_i h1
    conv=>whnf
    refine Ends.pure [] (.bool_of ?_) (by simp)
    symm
    rw[decide_eq_false_iff_not]
    rintro rfl
    simp at h1
   ·rename_i h1
    have h1:a[i]=b[i]:=by simpa using h1
    conv=>whnf
    exact⟨⟨i + 1,by omega,take_step hc hc' hr h1⟩,Wk.of id [] ⟨.free (encRus_free _ _),.free (encRus_free _ _),.int_of rfl,.int_of (wrap64_succ hc ha),trivial⟩ (LeH.nil (Nat.le_refl _) (fun b h=>by omega) (by simp)),by simp only;omega⟩
  ·rename_i hc
   have hc:i=a.length:=by simp at hc;omega
   subst hc
   rw[List.take_length,hlen,List.take_length]at hr
   conv=>whnf
   refine Ends.pure [] (.bool_of ?_) (by simp)
   simp[hr]
def sameP (p q:Policy):Bool:=decide (p.rules=q.rules)&& decide (p.els=q.els)
theorem sameP_eq {p q:Policy}:sameP p q=true↔p=q:=by
 obtain⟨a,b⟩:=p
 obtain⟨c,d⟩:=q
 simp[sameP]
theorem psame_ok (fr fr':Bool) (p q:Policy):PCon prog 51 [encPo fr p,encPo fr' q] (.bool (sameP p q)):=by
 refine callV_of (fn:=Go.Proofs.Tryz.f51) (body:=_) tab_ok mixed rfl rfl (by decide) (by simp[Go.Proofs.Tryz.f51]) ?_
 conv=>whnf
 split
 ·rename_i h
  conv=>whnf
  refine callV_pure (equalRu_ok fr fr' p.rules q.rules) ⟨.free (encRus_free _ _),.free (encRus_free _ _),trivial⟩ ?_
  conv=>whnf
  refine Ends.pure [] (.bool_of ?_) (by simp)
  simp_all[sameP]
 ·rename_i h
  conv=>whnf
  refine Ends.pure [] (.bool_of ?_) (by simp)
  simp_all[sameP]
theorem rsame_ok (fr fr':Bool) (p q:Policy):PCon prog 54 [encPo fr p,encPo fr' q] (.bool (sameP p q)):=by
 refine callV_of (fn:=Go.Proofs.Tryz.f54) (body:=_) tab_ok mixed rfl rfl (by decide) (by simp[Go.Proofs.Tryz.f54]) ?_
 have fin:∀{s:St} {r:Bool},sameP p q=r→∃v1 h' nx',Ends 0 s (.bool r) v1 h' nx'∧(v1=.bool (sameP p q)∧h'=[]∧nx'=0):=fun h=>Ends.pure [] (.bool_of h.symm) (by simp)
 conv=>whnf
 split
 ·rename_i h
  conv=>whnf
  refine fin ?_
  simp at h
  simp[sameP,h]
 rename_i h
 have hels:p.els=q.els:=by simpa using h
 conv=>whnf
 intro ha
 have ha:p.rules.length≤maxLen:=by simpa[gd]using ha
 conv=>whnf
 intro hb
 have hb:q.rules.length≤maxLen:=by simpa[gd]using hb
 conv=>whnf
 split
 ·rename_i h
  conv=>whnf
  refine fin ?_
  simp only[sameP,Bool.and_eq_false_imp,decide_eq_true_eq]
  intro hr
  simp[hr]at h
 rename_i h
 have hlen:p.rules.length=q.rules.length:=by simp at h;omega
 conv=>whnf
 refine vcg_loop tab_ok mixed (fun i:{i:Nat // i≤p.rules.length∧p.rules.take i=q.rules.take i}=>⟨[(2,.ptr 0 0),(3,.ptr 1 0),(5,cI i.1)],[(0,some (.var true 29 (cellsPo fr p))),(1,some (.var true 29 (cellsPo fr' q)))],2⟩) (fun i=>p.rules.length - i.1) ⟨0,by omega,rfl⟩ (Wk.i (by repeat' (first|exact LHa|exact .A|exact LeL.fr rfl|exact LHb|refine Or.inl ⟨by simp,_,rfl,?_⟩|exact Or.inr ⟨by simp,_,_,_,_,rfl⟩|refine⟨rfl,rfl,rfl,rfl,rfl,rfl,?_⟩|refine⟨?_,?_⟩)) (by omega)) (fun i=>?_)
 obtain⟨i,hi,hr⟩:=i
 conv=>whnf
 intro _
 conv=>whnf
 split
 ·rename_i hc
  have hc:i < p.rules.length:=by simpa using hc
  have hc':i < q.rules.length:=by omega
  conv=>whnf
  refine ixK (idxRu hc) ?_
  conv=>whnf
  refine ixK (idxRu hc') ?_
  conv=>whnf
  refine neqRu p.rules[i] q.rules[i] ?_
  conv=>whnf
  refine⟨by kernel_rfl,?_⟩
  conv=>whnf
  split
  ·rename_i h1
   conv=>whnf
   refine fin ?_
   simp only[sameP,Bool.and_eq_false_imp,decide_eq_true_eq]
   intro hr
   simp[hr]at h1
  ·rename_i h1
   have h1:p.rules[i]=q.rules[i]:=by simpa using h1
   conv=>whnf
   exact⟨⟨i + 1,by omega,take_step hc hc' hr h1⟩,(Wk.i (by repeat' (first|exact LHa|exact .int_of (wrap64_succ hc ha)|exact .A|exact LeL.fr rfl|exact LHb|refine Or.inl ⟨by simp,_,rfl,?_⟩|exact Or.inr ⟨by simp,_,_,_,_,rfl⟩|refine⟨rfl,rfl,rfl,rfl,rfl,rfl,?_⟩|refine⟨?_,?_⟩)) (by omega)),by simp only;omega⟩
 ·rename_i hc
  have hc:i=p.rules.length:=by simp at hc;omega
  subst hc
  rw[List.take_length,hlen,List.take_length]at hr
  conv=>whnf
  refine fin ?_
  simp[sameP,hr,hels]
end
section
open Go.Proofs.Tryz (prog)
attribute [local irreducible] CallV RoundV aggK
theorem cloneRu_own (fr:Bool) (l:List Rule) (hl:l.length≤1000):OCon prog 68 [encRus fr l] true false 132 15 l.length (rowsRu l):=by
 rcases l with _|⟨x,l⟩
 ·refine callV_of (fn:=Go.Proofs.Tryz.f68) (body:=_) tab_ok mixed rfl rfl (by decide) (by simp[Go.Proofs.Tryz.f68]) ?_
  conv=>whnf
  refine⟨?_,?_⟩
  ·conv=>whnf
   exact Ends.ownNil
  ·conv=>whnf
   refine⟨⟨rfl,rfl,rfl,rfl,by decide⟩,by simp,⟨by simp[tab,tabOf,nth],by simp⟩,?_⟩
   conv=>whnf
   exact Ends.own rfl (by simp) rfl rfl
 ·refine callV_of (fn:=Go.Proofs.Tryz.f68) (body:=_) tab_ok mixed rfl rfl (by decide) (by simp[Go.Proofs.Tryz.f68]) ?_
  conv=>whnf
  refine⟨⟨rfl,rfl,rfl,rfl,by decide⟩,by simp,⟨by simp[tab,tabOf,nth]at *;omega,by simp at *;omega⟩,?_⟩
  conv=>whnf
  exact Ends.own rfl (rowsRu_free (x :: l)) (by simp) rfl
theorem cloneRu_ok (fr:Bool) (l:List Rule) (hl:l.length≤1000):PCon prog 68 [encRus fr l] (encRus true l):=by
 have h:=PCon.of_own (cloneRu_own fr l hl) (by simp) (rowsRu_free l)
 rwa [List.take_of_length_le (by simp)]at h
def peerB (own:UInt32) (p:Peer):Bool:=decide (own ≠ 0)&& decide (p.sys ≠ 0)&& decide (p.id ≠ 0)&& decide (p.addr ≠ 0)&& (p.inner == decide (p.sys=own))
theorem zeroW (x:UInt32):((x.toNat:Int)=0)↔x=0:=by
 constructor
 ·intro h;exact UInt32.toNat_inj.1 (by simpa using h)
 ·intro h;subst h;rfl
theorem eqW (x y:UInt32):((x.toNat:Int)=y.toNat)↔x=y:=by
 constructor
 ·intro h;exact UInt32.toNat_inj.1 (by omega)
 ·intro h;subst h;rfl
theorem beqW (x y:UInt32):((x.toNat:Int) == (y.toNat:Int))=decide (x=y):=by
 by_cases h:x=y
 ·subst h;simp
 ·rw[decide_eq_false h]
  simp only[beq_eq_false_iff_ne]
  exact fun e=>h ((eqW _ _).1 e)
theorem rightPeer_ok (own:UInt32) (pe:Peer):PCon prog 35 [cW own,encPe pe] (.bool (peerB own pe)):=by
 have fin:∀{s:St} {b:Bool},b=peerB own pe→∃v1 h' nx',Ends 0 s (.bool b) v1 h' nx'∧(v1=.bool (peerB own pe)∧h'=[]∧nx'=0):=fun h=>Ends.pure [] (.bool_of h) (by simp)
 have z:=zeroW
 have e:=eqW
 refine callV_of (fn:=Go.Proofs.Tryz.f35) (body:=_) tab_ok mixed rfl rfl (by decide) (by simp[Go.Proofs.Tryz.f35]) ?_
 conv=>whnf
 repeat' first
  | refine fin ?_
  | (split<;>(conv=>whnf))
 all_goals simp_all[peerB,beqW]
structure RibS where
 own:UInt32
 peer:Peer
 pol:Policy
 said:List (Prefix × Attrs)
def encEn (fr:Bool) (e:Prefix × Attrs):List V:=cellsP e.1 ++ cellsA fr e.2
def encEns (fr:Bool) (l:List (Prefix × Attrs)):V:=.sl fr 10 (l.map (encEn fr))
def noRibS:RibS:=⟨0,⟨0,0,0,false⟩,⟨[],false⟩,[]⟩
theorem encEn_free (fr:Bool) (e:Prefix × Attrs):∀v∈encEn fr e,Free v:=by
 intro v hv
 rcases List.mem_append.1 hv with h|h
 ·exact cellsP_free _ v h
 ·exact cellsA_free _ _ v h
theorem encEns_free (fr:Bool) (l:List (Prefix × Attrs)):Free (encEns fr l):=.sl (by
 intro x hx v hv
 obtain⟨e,_,rfl⟩:=List.mem_map.1 hx
 exact encEn_free fr e v hv)
def newOk (own:UInt32) (pe:Peer) (pol:Policy):Bool:=peerB own pe && decide (checkP pol=0)
def newS (own:UInt32) (pe:Peer) (pol:Policy):RibS:=if newOk own pe pol then⟨own,pe,pol,[]⟩else noRibS
theorem pol_small {pol:Policy} (h:checkP pol=0):pol.rules.length≤16:=by
 unfold checkP at h
 split at h
 ·exact absurd h (by decide)
 ·split at h
  ·exact absurd h (by decide)
  ·omega
end
section
open Go.Proofs.Tryz (prog)
attribute [local irreducible] CallV RoundV aggK
theorem keys_erase {α:Type}:∀(l:List (Prefix × α)) (k:Nat),keysE (l.eraseIdx k)=(keysE l).eraseIdx k
 | [],_=>by simp[keysE]
 | p :: l,0=>by simp[keysE]
 | p :: l,k + 1=>by simpa[keysE]using keys_erase l k
theorem esA_erase:∀(l:List (Prefix × Attrs)) (k:Nat),(esA l).eraseIdx k=esA (l.eraseIdx k)
 | [],_=>by simp[esA]
 | p :: l,0=>by simp[esA]
 | p :: l,k + 1=>by simpa[esA]using esA_erase l k
end
section
open Go.Proofs.Tryz (prog)
attribute [local irreducible] CallV RoundV aggK
def byR (pol:Policy) (own:UInt32) (p:Prefix) (a:Attrs):Attrs × Bool:=if byE pol own p a ≠ 0 then(noA,false)else(byA pol own p a,byOk pol own p a)
theorem byV_R (fr:Bool) (pol:Policy) (own:UInt32) (p:Prefix) (a:Attrs):byV fr pol own p a=.tup [encA fr (byR pol own p a).1,.bool (byR pol own p a).2,.int .i64 (byE pol own p a)]:=by
 unfold byV byR
 by_cases h:byE pol own p a=0
 ·rw[if_neg (by simp[h]),if_neg (by simp[h]),h]
 ·rw[if_pos h,if_pos h]
def outA (pe:Peer) (a:Attrs):Attrs:=if pe.inner then a else { a with hasPref:=false,pref:=0 }
def isC (own:UInt32) (pe:Peer) (pol:Policy) (p:Prefix) (a:Attrs):Nat→Bool
 | 0=>true
 | 1=>!hasA a.path own
 | 2=>!hasA a.path own && (pe.inner || decide (firstOf a=pe.sys))
 | _=>!hasA a.path own && (pe.inner || decide (firstOf a=pe.sys))&& (byR pol own p (outA pe a)).2
def cnt (own:UInt32) (pe:Peer) (pol:Policy) (p:Prefix) (a:Attrs):Option Attrs:=if isC own pe pol p a 3 then some (byR pol own p (outA pe a)).1 else none
def zeroC:List V:=[.int .u8 0,.snil,.int .u32 0,.bool false,.int .u32 0,.bool false,.int .u32 0,.snil]
def optV (fr:Bool) (o:Option Attrs):V:=.tup [encA fr (o.getD noA),.bool o.isSome]
def smallA (a:Attrs):Prop:=a.path.length≤1000∧(∀p∈a.path,p.ns.length≤1000)∧a.tags.length≤1000
theorem look_some {m:List (Prefix × Attrs)} {p:Prefix} {a:Attrs} (h:getE m p=some a):MVal (esA m) (encP p) (some (encA false a)):=by
 obtain⟨i,hi⟩:=List.getElem?_of_mem (getE_mem h)
 exact⟨i,by simp[esA,hi]⟩
theorem look_none {m:List (Prefix × Attrs)} {p:Prefix} (h:getE m p=none):MVal (esA m) (encP p) none:=by
 intro kv hkv e
 obtain⟨x,hx,rfl⟩:=List.mem_map.1 hkv
 exact getE_none.1 h (List.mem_map.2 ⟨x,hx,encP_inj e⟩)
theorem cellsA_off {h:Heap} {nx nx':Nat} {ρ:Nat→Nat} {Z:List Nat} {a:Attrs}:LeL h nx ρ nx' Z (cellsA true a) (cellsA false a):=
 ⟨.fr rfl,(LeV.fr rfl).less Less.legs,.fr rfl,.fr rfl,.fr rfl,.fr rfl,.fr rfl,(LeV.fr rfl).less Less.encW,trivial⟩
end
section
open Go.Proofs.Tryz (prog)
attribute [local irreducible] CallV RoundV aggK
theorem LeB.mapPut {h:Heap} {nx nx':Nat} {ρ:Nat→Nat} {Z:List Nat} {out:List (Prefix × Attrs)} {p:Prefix} {b:Attrs} :
  LeB h nx ρ nx' Z (.map (mput (esA out) (encP p) (encA true b) none)) (.map (esA (out ++ [(p,b)]))):=by
 refine⟨by simp[mput,esA],fun j kv kv' h1 h2=>?_⟩
 simp only[mput,esA,List.map_append,List.map_cons,List.map_nil]at h1 h2
 rcases Nat.lt_or_ge j (List.map (fun e:Prefix × Attrs=>(encP e.1,encA false e.2)) out).length with hj|hj
 ·rw[List.getElem?_append_left hj]at h1 h2
  rw[h1]at h2
  cases h2
  have:=esA_free out kv (List.mem_of_getElem? h1)
  exact⟨.free this.1,.free this.2⟩
 ·rw[List.getElem?_append_right hj]at h1 h2
  have hz:j - (List.map (fun e:Prefix × Attrs=>(encP e.1,encA false e.2)) out).length=0:=by
   have:=(List.getElem?_eq_some_iff.1 h1).1
   simp only[List.length_cons,List.length_nil]at this
   omega
  rw[hz]at h1 h2
  simp only[List.getElem?_cons_zero,Option.some.injEq]at h1 h2
  subst h1;subst h2
  exact⟨.free (encP_free _),(LeV.free (encA_free true b)).less (less_encA true)⟩
theorem put_new {out:List (Prefix × Attrs)} {p:Prefix} (h:p ∉ keysE out):MPos (esA out) (encP p) none:=by
 intro kv hkv e
 obtain⟨x,hx,rfl⟩:=List.mem_map.1 hkv
 exact h (List.mem_map.2 ⟨x,hx,encP_inj e⟩)
theorem perm_eraseA:∀{l:List (Prefix × Attrs)} {k:Nat} {p:Prefix × Attrs},l[k]? = some p→(p :: l.eraseIdx k).Perm l
 | [],_,_,h=>by simp at h
 | a :: l,0,p,h=>by simp at h;subst h;simp
 | a :: l,k + 1,p,h=>by
  have h:l[k]? = some p:=by simpa using h
  rw[List.eraseIdx_cons_succ]
  exact(List.Perm.swap a p _).trans ((perm_eraseA h).cons a)
theorem perm_stepA {xs rest:List (Prefix × Attrs)} {k:Nat} {p:Prefix × Attrs} (h:rest[k]? = some p):((xs ++ [p])++ rest.eraseIdx k).Perm (xs ++ rest):=by
 rw[List.append_assoc]
 refine List.Perm.append_left xs ?_
 exact perm_eraseA h
def okM (own:UInt32) (pe:Peer) (pol:Policy) (m:List (Prefix × Attrs)):Prop:=NodE m∧m.length≤400∧∀e∈m,smallA e.2∧∀b,cnt own pe pol e.1 e.2=some b→smallA b
end
section
open Go.Proofs.Tryz (prog)
attribute [local irreducible] CallV RoundV aggK
structure Route where
 pfx:Prefix
 attrs:Attrs
 peer:Peer
def cellsRt (fr:Bool) (r:Route):List V:=cellsP r.pfx ++ cellsA fr r.attrs ++ cellsPe r.peer
def encRt (fr:Bool) (r:Route):V:=.agg (cellsRt fr r)
theorem cellsRt_free (fr:Bool) (r:Route):∀v∈cellsRt fr r,Free v:=by
 intro v hv
 rcases List.mem_append.1 hv with h|h
 ·rcases List.mem_append.1 h with h|h
  ·exact cellsP_free _ v h
  ·exact cellsA_free _ _ v h
 ·exact(cellsPe_all _ v h).1
theorem encRt_free (fr:Bool) (r:Route):Free (encRt fr r):=.agg (cellsRt_free fr r)
instance {fr r}:FreeI (encRt fr r):=⟨⟨encRt_free fr r⟩⟩
end
section
open Go.Proofs.Tryz (prog)
attribute [local irreducible] CallV RoundV aggK
theorem Ren.mapp {σ:Nat→Nat} {b b':Nat} (h:σ b=b'):Ren σ (.mapp b) (.mapp b'):=fun ι ι' z im u hι hv=>by
 subst h
 cases hv with
 | mapp _ c hc=>exact .mapp _ c ((hι b).trans hc)
end
section
open Go.Proofs.Tryz (prog)
attribute [local irreducible] CallV RoundV aggK VC VM CallB
theorem esA_cold (m:List (Prefix × Attrs)):∀kv∈esA m,Cold kv.1∧Cold kv.2:=by
 intro kv h
 obtain⟨e,_,rfl⟩:=List.mem_map.1 h
 exact⟨encP_cold _,encA_cold _⟩
theorem mem_dd {l:List Prefix} {p:Prefix} (h:p∈l) (hr:prefOk p=true):p∈dd l:=by
 have keep:∀(l acc:List Prefix),p∈acc→p∈l.foldl ddS acc:=by
  intro l
  induction l with
  | nil=>intro acc h;exact h
  | cons x l ih=>intro acc h;refine ih _ ?_;unfold ddS;split<;>(try split)<;>simp[h]
 have key:∀(l acc:List Prefix),p∈l→p∈l.foldl ddS acc:=by
  intro l
  induction l with
  | nil=>intro acc h;cases h
  | cons x l ih=>
   intro acc h
   rcases List.mem_cons.1 h with rfl|h
   ·refine keep l _ ?_
    unfold ddS
    rw[if_pos hr]
    split
    ·assumption
    ·simp
   ·exact ih _ h
 exact key l [] h
theorem cnt_pref {own:UInt32} {pe:Peer} {pol:Policy} {p:Prefix} {a b:Attrs} (h:cnt own pe pol p a=some b):prefOk p=true:=by
 cases hp:prefOk p with
 | true=>rfl
 | false=>
  have e:byR pol own p (outA pe a)=(noA,false):=by rw[byR,if_pos (by rw[byE,if_pos (.inr (.inl hp))];decide)]
  simp[cnt,isC,e]at h
def chgs (own:UInt32) (pe:Peer) (pol pol':Policy) (m n:List (Prefix × Attrs)):List Change:=
 (sortPs (dd (keysE m ++ keysE n))).filterMap (chg noA (fun p=>(getE m p).bind (cnt own pe pol p)) (fun p=>(getE n p).bind (cnt own pe pol' p)))
end
section
open Go.Proofs.Tryz (prog)
attribute [local irreducible] CallV RoundV aggK
def eqE (a b:List (Prefix × Attrs)):Bool:=decide (a.length=b.length)&& a.all fun e=>decide (getE b e.1=some e.2)
theorem perm_sub {α:Type} [DecidableEq α]:∀{a b:List α},a.Nodup→a ⊆ b→b.length≤a.length→a.Perm b
 | [],b,_,_,hl=>by
  obtain rfl:b=[]:=List.eq_nil_of_length_eq_zero (by simpa using hl)
  exact .refl _
 | x :: a,b,hn,hs,hl=>by
  have hx:x∈b:=hs (by simp)
  obtain⟨h1,h2⟩:=List.nodup_cons.1 hn
  have hp:=List.perm_cons_erase hx
  refine((perm_sub h2 (fun y hy=>?_) ?_).cons x).trans hp.symm
  ·exact(List.mem_erase_of_ne (fun e=>by subst e;exact h1 hy)).2 (hs (by simp[hy]))
  ·have:=hp.length_eq
   simp at this hl
   omega
theorem eqE_perm {a b:List (Prefix × Attrs)} (ha:NodE a) (hb:NodE b):eqE a b=true↔a.Perm b:=by
 unfold eqE
 rw[Bool.and_eq_true,decide_eq_true_eq,List.all_eq_true]
 simp only[decide_eq_true_eq]
 constructor
 ·rintro ⟨hl,h⟩
  have hsub:a ⊆ b:=fun e he=>getE_mem (h e he)
  exact perm_sub ha.nodup hsub (Nat.le_of_eq hl.symm)
 ·intro hp
  exact⟨hp.length_eq,fun e he=>mem_getE hb (hp.mem_iff.1 he)⟩
theorem eqE_false {a b:List (Prefix × Attrs)} {p:Prefix} {x:Attrs} (h:(p,x)∈a) (hn:getE b p ≠ some x):eqE a b=false:=by
 unfold eqE
 rw[Bool.and_eq_false_iff]
 right
 cases hh:a.all fun e=>decide (getE b e.1=some e.2)with
 | false=>rfl
 | true=>exact absurd (of_decide_eq_true (List.all_eq_true.1 hh _ h)) hn
def litsPe (p:Peer):List Lit:=[litW p.sys,litW p.id,litW p.addr,.bool p.inner]
theorem litsPe_inj {p q:Peer}:litsPe p=litsPe q↔p=q:=by
 constructor
 ·intro h
  obtain⟨a,b,c,d⟩:=p
  obtain⟨a',b',c',d'⟩:=q
  simp only[litsPe,List.cons.injEq,Lit.bool.injEq,and_true]at h
  obtain⟨h1,h2,h3,h4⟩:=h
  rw[litW_inj h1,litW_inj h2,litW_inj h3,h4]
 ·exact fun h=>by rw[h]
theorem litPe (p:Peer) {K:List Lit→Prop} (h:K (litsPe p)):litK tab 60 26 (cellsPe p) K:=And.intro (wfW _) (And.intro (wfW _) (And.intro (wfW _) h))
theorem neqPe (r s:Peer) {K:V→Prop} (h:K (.bool (!decide (r=s)))):aggK tab .neq 26 (cellsPe r) (cellsPe s) K:=by
 refine aggK_neq rfl rfl ?_
 refine litPe r ?_
 refine litPe s ?_
 exact⟨decide (r=s),by rw[litsPe_inj];simp,h⟩
theorem eqlPe (r s:Peer) {K:V→Prop} (h:K (.bool (decide (r=s)))):aggK tab .eql 26 (cellsPe r) (cellsPe s) K:=by
 refine aggK_eql rfl rfl ?_
 refine litPe r ?_
 refine litPe s ?_
 exact⟨decide (r=s),by rw[litsPe_inj];simp,h⟩
end
section
open Go.Proofs.Tryz (prog)
attribute [local irreducible] CallV RoundV aggK
theorem idxEn {fr:Bool} {l:List (Prefix × Attrs)} {i:Nat} (h:i < l.length):(l.map (encEn fr))[(i:Int).toNat]? = some (encEn fr l[i]):=by simp[h]
end
section
open Go.Proofs.Tryz (prog)
attribute [local irreducible] CallV RoundV aggK
def ctR (own:UInt32) (pe:Peer) (pol:Policy) (p:Prefix) (a:Attrs):Attrs × Bool:=
 if hasA a.path own then(noA,false)else if !pe.inner && !decide (firstOf a=pe.sys)then(noA,false)else byR pol own p (outA pe a)
theorem ctR_cnt (own:UInt32) (pe:Peer) (pol:Policy) (p:Prefix) (a:Attrs):cnt own pe pol p a=if(ctR own pe pol p a).2 then some (ctR own pe pol p a).1 else none:=by
 unfold cnt ctR isC
 cases hasA a.path own<;>cases pe.inner<;>cases decide (firstOf a=pe.sys)<;>simp
def countR (r:RibS) (p:Prefix):Option Attrs:=(getE r.said p).bind (cnt r.own r.peer r.pol p)
end
section
open Go.Proofs.Tryz (prog)
attribute [local irreducible] CallV RoundV aggK
theorem keysE_len (l:List (Prefix × Attrs)):(keysE l).length=l.length:=List.length_map _
end
section
open Go.Proofs.Tryz (prog)
attribute [local irreducible] CallV RoundV aggK
def newR (r:RibS) (u:Upd):RibS:={ r with said:=takeS r.said u.gone u.new u.attrs }
end
section
open Go.Proofs.Tryz (prog)
attribute [local irreducible] CallV RoundV aggK
structure RelR (own:UInt32) (pe:Peer) (pol:Policy) (m:List (Prefix × Attrs)) (r:RibS):Prop where
 eown:r.own=own
 epeer:r.peer=pe
 epol:r.pol=pol
 perm:r.said.Perm m
 ris:RisE r.said
 ok:okM own pe pol m
theorem RelR.keys {own:UInt32} {pe:Peer} {pol:Policy} {m:List (Prefix × Attrs)} {r:RibS} (h:RelR own pe pol m r):sortPs (keysE m)=keysE r.said:=by
 have h1:(keysE m).Perm (keysE r.said):=(h.perm.map _).symm
 rw[sortPs_perm h1]
 exact sorted_eq (List.mergeSort_perm _ _) (sortPs_sorted (keysE r.said)) (List.Pairwise.imp (fun h=>Nat.le_of_lt h) h.ris)
theorem RelR.get {own:UInt32} {pe:Peer} {pol:Policy} {m:List (Prefix × Attrs)} {r:RibS} (h:RelR own pe pol m r) {i:Nat} (hi:i < r.said.length):getE m r.said[i].1=some r.said[i].2:=by
 have hn:NodE m:=h.ok.1
 exact mem_getE hn (h.perm.mem_iff.1 (List.getElem_mem hi))
theorem RelR.len {own:UInt32} {pe:Peer} {pol:Policy} {m:List (Prefix × Attrs)} {r:RibS} (h:RelR own pe pol m r):r.said.length=m.length:=h.perm.length_eq
theorem RelR.count {own:UInt32} {pe:Peer} {pol:Policy} {m:List (Prefix × Attrs)} {r:RibS} (h:RelR own pe pol m r) (p:Prefix):countR r p=(getE m p).bind (cnt own pe pol p):=by
 rw[countR,h.eown,h.epeer,h.epol,getE_perm h.ris.nod h.perm]
end
section
open Go.Proofs.Tryz (prog)
theorem right_small {a:Attrs} (h:rightA a=true):smallA a:=by
 simp only[rightA,Bool.and_eq_true,decide_eq_true_eq]at h
 obtain⟨⟨⟨⟨⟨⟨_,h1⟩,_⟩,_⟩,_⟩,h2⟩,_⟩:=h
 simp only[pathOk,Bool.and_eq_true,decide_eq_true_eq,List.all_eq_true]at h1
 refine⟨by omega,fun p hp=>?_,by omega⟩
 have:=h1.2 p hp
 simp only[legOk,Bool.and_eq_true,decide_eq_true_eq]at this
 have:=this.1.1.2
 omega
theorem noA_small:smallA noA:=⟨by simp[noA],by simp[noA],by simp[noA]⟩
theorem byE_zero24 {p:Policy} {own:UInt32} {to:Prefix} {a:Attrs} (h:byE p own to a=0):rightA a=true:=by
 unfold byE at h
 split at h
 ·cases h
 ·rename_i hh
  simp only[not_or]at hh
  simpa using hh.2.2.1
theorem by_right24 {p:Policy} {own:UInt32} {to:Prefix} {a:Attrs} (h:byE p own to a=0) (hok:byOk p own to a=true):rightA (byA p own to a)=true:=by
 have h3:=byE_zero24 h
 unfold byA
 unfold byOk at hok
 cases hf:p.rules.find? (fun r=>fits r to a)with
 | none=>
  rw[hf]at hok
  simp only at hok ⊢
  rw[if_pos hok]
  exact h3
 | some r=>
  rw[hf]at hok
  simp only at hok ⊢
  rw[if_pos hok]
  simp only[passR,Bool.and_eq_true,decide_eq_true_eq]at hok
  have hd:=hok.2
  unfold doneE at hd
  exact(prep_fine hd).2.2.2.1
theorem cnt_small {own:UInt32} {pe:Peer} {pol:Policy} {p:Prefix} {a b:Attrs} (h:cnt own pe pol p a=some b):smallA b:=by
 rw[ctR_cnt]at h
 split at h
 ·rename_i hc
  cases h
  unfold ctR at hc ⊢
  split at hc
  ·cases hc
  ·split at hc
   ·cases hc
   ·rename_i h1 h2
    rw[if_neg h1,if_neg h2]
    unfold byR at hc ⊢
    split at hc
    ·cases hc
    ·rename_i h3
     rw[if_neg h3]
     exact right_small (by_right24 (by simpa using h3) hc)
 ·cases h
theorem okM_of {own:UInt32} {pe:Peer} {pol:Policy} {m:List (Prefix × Attrs)} (hn:NodE m) (hl:m.length≤400) (hs:∀e∈m,smallA e.2):okM own pe pol m:=⟨hn,hl,fun e he=>⟨hs e he,fun b hb=>cnt_small hb⟩⟩
theorem okM_nil (own:UInt32) (pe:Peer) (pol:Policy):okM own pe pol []:=okM_of (by simp[NodE,keysE]) (by simp) (by simp)
theorem okM_pol {own:UInt32} {pe:Peer} {pol pol':Policy} {m:List (Prefix × Attrs)} (h:okM own pe pol m):okM own pe pol' m:=okM_of h.1 h.2.1 fun e he=>(h.2.2 e he).1
theorem take_small {P:Attrs→Prop} {l:List (Prefix × Attrs)} {g new:List Prefix} {a:Attrs} (h:∀e∈l,P e.2) (ha:P a):∀e∈takeM l g new a,P e.2:=by
 have hd:∀(g:List Prefix) (l:List (Prefix × Attrs)),(∀e∈l,P e.2)→∀e∈delsM l g,P e.2:=by
  intro g
  induction g with
  | nil=>intro l h;exact h
  | cons x g ih=>intro l h;exact ih _ fun e he=>h e (List.mem_filter.1 he).1
 have hp:∀(g:List Prefix) (l:List (Prefix × Attrs)),(∀e∈l,P e.2)→∀e∈putsM l g a,P e.2:=by
  intro g
  induction g with
  | nil=>intro l h;exact h
  | cons x g ih=>
   intro l h
   refine ih _ fun e he=>?_
   have he:e∈putE l x a:=he
   by_cases hk:x∈keysE l
   ·rw[putE,if_pos hk]at he
    obtain⟨e',he',rfl⟩:=List.mem_map.1 he
    show P (if e'.1=x then(x,a)else e').2
    by_cases hx:e'.1=x
    ·rw[if_pos hx];exact ha
    ·rw[if_neg hx];exact h e' he'
   ·rw[putE,if_neg hk]at he
    rcases List.mem_append.1 he with he|he
    ·exact h e he
    ·obtain rfl:=List.mem_singleton.1 he
     exact ha
 exact hp new _ (hd g l h)
theorem RelR.take {own:UInt32} {pe:Peer} {pol:Policy} {m:List (Prefix × Attrs)} {r:RibS} (h:RelR own pe pol m r) {u:Upd} (hu:checkU u=0) (ha:smallA u.attrs) (hl:¬ 64 < (newR r u).said.length):RelR own pe pol (takeM m u.gone u.new u.attrs) (newR r u):=by
 have hm:mayU u=true:=by
  unfold checkU at hu
  split at hu
  ·assumption
  ·cases hu
 obtain⟨_,h2,_,_⟩:=mayU_out hm
 have hnd:u.new.Nodup:=nodup_of_strict (strict_of_rise (riseP_iff.1 h2))
 have hp:(takeM m u.gone u.new u.attrs).Perm (newR r u).said:=take_perm h.ris h.perm.symm hnd
 obtain⟨hris,_⟩:=takeS_ok (gone:=u.gone) (a:=u.attrs) h.ris hnd
 exact⟨h.eown,h.epeer,h.epol,hp.symm,hris,okM_of (nod_take h.ok.1) (by rw[hp.length_eq];omega) (take_small (fun e he=>(h.ok.2.2 e he).1) ha)⟩
theorem RelR.policy {own:UInt32} {pe:Peer} {pol:Policy} {m:List (Prefix × Attrs)} {r:RibS} (h:RelR own pe pol m r) (p:Policy):RelR own pe p m { r with pol:=p }:=
 ⟨h.eown,h.epeer,rfl,h.perm,h.ris,okM_pol h.ok⟩
theorem RelR.clear {own:UInt32} {pe:Peer} {pol:Policy} {m:List (Prefix × Attrs)} {r:RibS} (h:RelR own pe pol m r):RelR own pe pol [] { r with said:=[] }:=
 ⟨h.eown,h.epeer,h.epol,.refl _,by simp[RisE,keysE],okM_nil _ _ _⟩
theorem RelR.new {own:UInt32} {pe:Peer} {pol:Policy} (h:newOk own pe pol=true):RelR own pe pol [] (newS own pe pol):=by
 rw[newS,if_pos h]
 exact⟨rfl,rfl,rfl,.refl _,by simp[RisE,keysE],okM_nil _ _ _⟩
end
section
def Kin (u0 u1:Value):Prop:=(∃x y:UInt32,u0=.int .u32 x.toNat∧u1=.int .u32 y.toNat)∨∃b c,u0=.bool b∧u1=.bool c
theorem Kin.one {u0 u1:Value} (h:Kin u0 u1):u1.oneCell'=true:=by
 rcases h with⟨x,y,_,rfl⟩|⟨b,c,_,rfl⟩<;>rfl
section
variable {G : Gh} {w w' : World} {ad : Addr} {u0 u1 : Value}
theorem imm_ch {fr:Bool} {a:Addr} {u:Value} (hi:imm G w fr a u) (hch:Ch w w' ad u1) (h1:u1.oneCell'=true) (hs:a.spot=none:=by rfl):imm G w' fr a (if a=ad then u1 else u):=by
 refine⟨?_,hi.2.1,fun hf=>?_,?_⟩
 ·rw[rd_cell hs,hch.cell]
  split
  ·rfl
  ·exact(rd_cell hs).symm.trans hi.1
 ·rw[hch.frozen];exact hi.2.2.1 hf
 ·intro _
  split
  ·exact h1
  ·exact hi.2.2.2 hs
theorem words_ch {fr:Bool} {l:List UInt32} {u:Value} (hv:vr G w (encW fr l) u) (hch:Ch w w' ad u1) (h0:w.cell? ad=some u0) (hk:Kin u0 u1):∃l':List UInt32,l'.length=l.length∧vr G w' (encW fr l') u:=by
 unfold encW at hv
 cases hv with
 | sl _ _ _ A cap us hcap hm hA hrow hc hv=>
  have hfl:∀j,j < l.length→(l.map fun x=>[V.int .u32 x.toNat]).flatten[j]? = some (.int .u32 ((l[j]?).getD 0).toNat):=by
   intro j hj
   have:=flatten_row (rows:=l.map fun x=>[V.int .u32 x.toNat]) (sz:=1) (row:=j) (r:=[V.int .u32 ((l[j]?).getD 0).toNat]) (fun x hx=>by obtain⟨y,_,rfl⟩:=List.mem_map.1 hx;rfl) (by simp[hj]) 0 _ rfl
   simpa using this
  have hex:∀j,∃y:UInt32,j < l.length→∀p,A=some p→(if(⟨p.block,p.off + j,none⟩:Addr)=ad then u1 else us j)=.int .u32 y.toNat:=by
   intro j
   by_cases hj:j < l.length
   ·have hj':=hfl j hj
    have huj:=VR.int_iff.1 (hv j _ hj')
    by_cases he:∃p,A=some p∧(⟨p.block,p.off + j,none⟩:Addr)=ad
    ·obtain⟨p,hp,he⟩:=he
     have h2:w.cell? ⟨p.block,p.off + j,none⟩=some (us j):=(hc j _ hj' p hp).1
     rw[he,h0]at h2
     have h2:u0=us j:=Option.some.inj h2
     rw[huj]at h2
     rcases hk with⟨x,y,e1,e2⟩|⟨b,c,e1,e2⟩
     ·refine⟨y,fun _ p' hp'=>?_⟩
      rw[hp]at hp';cases hp'
      rw[if_pos he,e2]
     ·rw[e1]at h2;cases h2
    ·refine⟨(l[j]?).getD 0,fun _ p hp=>?_⟩
     rw[if_neg (fun e=>he ⟨p,hp,e⟩),huj]
   ·exact⟨0,fun h=>absurd h hj⟩
  let f:Nat→UInt32:=fun j=>Classical.choose (hex j)
  have hf:∀j,j < l.length→∀p,A=some p→(if(⟨p.block,p.off + j,none⟩:Addr)=ad then u1 else us j)=.int .u32 (f j).toNat:=fun j=>Classical.choose_spec (hex j)
  refine⟨(List.range l.length).map f,by simp,?_⟩
  have hlen:(((List.range l.length).map f).map fun x=>[V.int .u32 x.toNat]).length=(l.map fun x=>[V.int .u32 x.toNat]).length:=by simp
  have hfl':∀(j:Nat) (v:V),(((List.range l.length).map f).map fun x=>[V.int .u32 x.toNat]).flatten[j]? = some v→j < l.length∧v=.int .u32 (f j).toNat:=by
   intro j v hj
   have hjl:j < l.length:=by
    have:=(List.getElem?_eq_some_iff.1 hj).1
    rw[flatten_cells (sz:=1) (fun x hx=>by obtain⟨y,_,rfl⟩:=List.mem_map.1 hx;rfl),List.length_map,List.length_map,List.length_range]at this
    omega
   have:=flatten_row (rows:=((List.range l.length).map f).map fun x=>[V.int .u32 x.toNat]) (sz:=1) (row:=j) (r:=[V.int .u32 (f j).toNat]) (fun x hx=>by obtain⟨y,_,rfl⟩:=List.mem_map.1 hx;rfl) (by simp[hjl]) 0 _ rfl
   rw[Nat.mul_one,Nat.add_zero,hj]at this
   exact⟨hjl,Option.some.inj this⟩
  have hne:((List.range l.length).map f).map (fun x=>[V.int .u32 x.toNat]) ≠ []→∃p,A=some p∧p.spot=none:=fun h=>hA (fun e=>h (by
   have:l=[]:=by simpa using e
   subst this;rfl))
  have:=VR.sl (ι:=G.ι) (csz:=csz w') (imm:=imm G w') fr 1 (((List.range l.length).map f).map fun x=>[V.int .u32 x.toNat]) A cap (fun j=>match A with|some p=>if(⟨p.block,p.off + j,none⟩:Addr)=ad then u1 else us j|none=>us j) (by rw[hlen];exact hcap) hm hne
   (fun x hx=>by obtain⟨y,_,rfl⟩:=List.mem_map.1 hx;rfl) (fun j v hj p hp=>by
    obtain⟨hjl,rfl⟩:=hfl' j v hj
    subst hp
    exact imm_ch (hc j _ (hfl j hjl) p rfl) hch hk.one) (fun j v hj=>by
    obtain⟨hjl,rfl⟩:=hfl' j v hj
    obtain⟨p,hp,_⟩:=hne (by intro e;rw[e]at hj;simp at hj)
    subst hp
    have:=hf j hjl p rfl
    simp only[this]
    exact .int _ _)
  rw[hlen]at this
  exact this
def Alike (p q:List Leg):Prop:=p.map (·.ns.length)=q.map (·.ns.length)
theorem Alike.length {p q:List Leg} (h:Alike p q):p.length=q.length:=by simpa[Alike]using congrArg List.length h
theorem Alike.at {p q:List Leg} (h:Alike p q) {i:Nat} (h1:i < p.length) (h2:i < q.length):p[i].ns.length=q[i].ns.length:=by
 have:(p.map (·.ns.length))[i]? = (q.map (·.ns.length))[i]?:=by rw[h]
 simpa[h1,h2]using this
theorem legs_ch {fr:Bool} {l:List Leg} {u:Value} (hv:vr G w (encLegs fr l) u) (hch:Ch w w' ad u1) (h0:w.cell? ad=some u0) (hk:Kin u0 u1):∃l':List Leg,Alike l' l∧vr G w' (encLegs fr l') u:=by
 unfold encLegs at hv
 cases hv with
 | sl _ _ _ A cap us hcap hm hA hrow hc hv=>
  have len2:∀(l:List Leg),∀x∈l.map (encLeg fr),x.length=2:=fun l x hx=>by obtain⟨y,_,rfl⟩:=List.mem_map.1 hx;rfl
  have hd:Leg:=⟨false,[]⟩
  have hf0:∀(l:List Leg) j (hj:j < l.length),(l.map (encLeg fr)).flatten[j * 2 + 0]? = some (.bool l[j].set):=fun l j hj=>flatten_row (r:=encLeg fr l[j]) (len2 l) (by simp[hj]) 0 _ rfl
  have hf1:∀(l:List Leg) j (hj:j < l.length),(l.map (encLeg fr)).flatten[j * 2 + 1]? = some (encW fr l[j].ns):=fun l j hj=>flatten_row (r:=encLeg fr l[j]) (len2 l) (by simp[hj]) 1 _ rfl
  have hex:∀j,∃y:Leg,∀hj:j < l.length,y.ns.length=l[j].ns.length∧∀p,A=some p→(if(⟨p.block,p.off + (j * 2 + 0),none⟩:Addr)=ad then u1 else us (j * 2 + 0))=.bool y.set∧(⟨p.block,p.off + (j * 2 + 1),none⟩:Addr) ≠ ad∧vr G w' (encW fr y.ns) (us (j * 2 + 1)):=by
   intro j
   by_cases hj:j < l.length
   ·have hb:=VR.bool_iff.1 (hv _ _ (hf0 l j hj))
    obtain⟨ns,hnl,hns⟩:=words_ch (hv _ _ (hf1 l j hj)) hch h0 hk
    have hne:∀p,A=some p→(⟨p.block,p.off + (j * 2 + 1),none⟩:Addr) ≠ ad:=by
     intro p hp he
     have h2:w.cell? ⟨p.block,p.off + (j * 2 + 1),none⟩=some (us (j * 2 + 1)):=(hc _ _ (hf1 l j hj) p hp).1
     rw[he,h0]at h2
     have h2:u0=us (j * 2 + 1):=Option.some.inj h2
     have h3:=hv _ _ (hf1 l j hj)
     rw[← h2]at h3
     unfold encW at h3
     rcases hk with⟨x,y,e1,e2⟩|⟨b,c,e1,e2⟩<;>rw[e1]at h3<;>cases h3
    have hset:∃b:Bool,∀p,A=some p→(if(⟨p.block,p.off + (j * 2 + 0),none⟩:Addr)=ad then u1 else us (j * 2 + 0))=.bool b:=by
     by_cases he:∃p,A=some p∧(⟨p.block,p.off + (j * 2 + 0),none⟩:Addr)=ad
     ·obtain⟨p,hp,he⟩:=he
      have h2:w.cell? ⟨p.block,p.off + (j * 2 + 0),none⟩=some (us (j * 2 + 0)):=(hc _ _ (hf0 l j hj) p hp).1
      rw[he,h0]at h2
      have h2:u0=us (j * 2 + 0):=Option.some.inj h2
      rw[hb]at h2
      rcases hk with⟨x,y,e1,e2⟩|⟨b,c,e1,e2⟩
      ·rw[e1]at h2;cases h2
      ·refine⟨c,fun p' hp'=>?_⟩
       rw[hp]at hp';cases hp'
       rw[if_pos he,e2]
     ·refine⟨l[j].set,fun p hp=>?_⟩
      rw[if_neg (fun e=>he ⟨p,hp,e⟩),hb]
    obtain⟨b,hb'⟩:=hset
    exact⟨⟨b,ns⟩,fun _=>⟨hnl,fun p hp=>⟨hb' p hp,hne p hp,hns⟩⟩⟩
   ·exact⟨hd,fun h=>absurd h hj⟩
  let f:Nat→Leg:=fun j=>Classical.choose (hex j)
  have hf:∀j (hj:j < l.length),(f j).ns.length=l[j].ns.length∧∀p,A=some p→(if(⟨p.block,p.off + (j * 2 + 0),none⟩:Addr)=ad then u1 else us (j * 2 + 0))=.bool (f j).set∧(⟨p.block,p.off + (j * 2 + 1),none⟩:Addr) ≠ ad∧vr G w' (encW fr (f j).ns) (us (j * 2 + 1)):=fun j=>Classical.choose_spec (hex j)
  refine⟨(List.range l.length).map f,?_,?_⟩
  ·unfold Alike
   apply List.ext_getElem
   ·simp
   ·intro i h1 h2
    simp at h1 h2 ⊢
    exact(hf i h2).1
  have hlen:(((List.range l.length).map f).map (encLeg fr)).length=(l.map (encLeg fr)).length:=by simp
  have hne:((List.range l.length).map f).map (encLeg fr) ≠ []→∃p,A=some p∧p.spot=none:=fun h=>hA (fun e=>h (by
   have:l=[]:=by simpa using e
   subst this;rfl))
  have split2:∀(j:Nat) (v:V),(((List.range l.length).map f).map (encLeg fr)).flatten[j]? = some v→∃i,∃hi:i < l.length,(j=i * 2 + 0∧v=.bool (f i).set)∨(j=i * 2 + 1∧v=encW fr (f i).ns):=by
   intro j v hj
   have hjl:j < l.length * 2:=by
    have:=(List.getElem?_eq_some_iff.1 hj).1
    rwa [flatten_cells (len2 _),List.length_map,List.length_map,List.length_range]at this
   refine⟨j / 2,by omega,?_⟩
   have hi:j / 2 < ((List.range l.length).map f).length:=by simp;omega
   have e0:=hf0 ((List.range l.length).map f) (j / 2) hi
   have e1:=hf1 ((List.range l.length).map f) (j / 2) hi
   simp only[List.getElem_map,List.getElem_range]at e0 e1
   rcases Nat.mod_two_eq_zero_or_one j with h|h
   ·left
    refine⟨by omega,?_⟩
    rw[show j / 2 * 2 + 0=j by omega,hj]at e0
    exact Option.some.inj e0
   ·right
    refine⟨by omega,?_⟩
    rw[show j / 2 * 2 + 1=j by omega,hj]at e1
    exact Option.some.inj e1
  have:=VR.sl (ι:=G.ι) (csz:=csz w') (imm:=imm G w') fr 2 (((List.range l.length).map f).map (encLeg fr)) A cap (fun j=>match A with|some p=>if(⟨p.block,p.off + j,none⟩:Addr)=ad then u1 else us j|none=>us j) (by rw[hlen];exact hcap) hm hne
   (len2 _) (fun j v hj p hp=>by
    subst hp
    obtain⟨i,hi,⟨rfl,rfl⟩|⟨rfl,rfl⟩⟩:=split2 j v hj
    ·exact imm_ch (hc _ _ (hf0 l i hi) p rfl) hch hk.one
    ·exact imm_ch (hc _ _ (hf1 l i hi) p rfl) hch hk.one) (fun j v hj=>by
    obtain⟨p,hp,_⟩:=hne (by intro e;rw[e]at hj;simp at hj)
    subst hp
    obtain⟨i,hi,⟨rfl,rfl⟩|⟨rfl,rfl⟩⟩:=split2 j v hj
    ·have:=((hf i hi).2 p rfl).1
     simp only[this]
     exact .bool _
    ·have:=((hf i hi).2 p rfl).2
     simp only[if_neg this.1]
     exact this.2)
  rw[hlen]at this
  exact this
end
end
section
open Go.Proofs.Tryz (prog)
attribute [local irreducible] CallV RoundV VC VH
structure Shp (a x:Attrs):Prop where
 legs:Alike x.path a.path
 tags:x.tags.length=a.tags.length
theorem Shp.refl (a:Attrs):Shp a a:=⟨rfl,rfl⟩
def Bare (s:St):List (Nat × V)→Prop
 | []=>True
 | (i,v) :: r=>(Scalar v∧s.get i=v)∧Bare s r
theorem Bare.out {s:St}:∀{t:List (Nat × V)},Bare s t→∀i,look t i=.any∨(Scalar (look t i)∧s.get i=look t i)
 | [],_,i=>.inl rfl
 | (j,v) :: r,h,i=>by
  have e:look ((j,v) :: r) i=if j=i then v else look r i:=by
   have:=get_put r [] [] 0 0 j v i
   simpa[St.get]using this
  rw[e]
  by_cases hij:j=i
  ·subst hij;rw[if_pos rfl];exact .inr h.1
  ·rw[if_neg hij];exact Bare.out h.2 i
theorem Kin.u32 {G:Gh} {w:World} {n:Nat} {m:Int} {u0 u1:Value} (hn:n < 2 ^ 32) (hm:0≤m∧m < 2 ^ 32) (h0:vr G w (.int .u32 n) u0) (h1:vr G w (.int .u32 m) u1):Kin u0 u1:=by
 left
 refine⟨UInt32.ofNat n,UInt32.ofNat m.toNat,?_,?_⟩
 ·rw[VR.int_iff.1 h0,UInt32.toNat_ofNat_of_lt' (by simpa[UInt32.size]using hn)]
 ·rw[VR.int_iff.1 h1,UInt32.toNat_ofNat_of_lt' (by simp[UInt32.size];omega)]
  congr 1;omega
theorem Kin.bool {G:Gh} {w:World} {b c:Bool} {u0 u1:Value} (h0:vr G w (.bool b) u0) (h1:vr G w (.bool c) u1):Kin u0 u1:=.inr ⟨b,c,VR.bool_iff.1 h0,VR.bool_iff.1 h1⟩
theorem Shp.trans {a b c:Attrs} (h:Shp a b) (k:Shp b c):Shp a c:=⟨k.legs.trans h.legs,k.tags.trans h.tags⟩
end
section
section
variable {G : Gh} {w w' : World} {ad : Addr} {u0 u1 : Value}
theorem sl_ch {α:Type} {cells:α→List V} {sz:Nat} (h0z:0 < sz) (hsz:∀x,(cells x).length=sz) {Sh:α→α→Prop}
  (hstep:∀(x:α) (us us':Nat→Value),(∀q v,(cells x)[q]? = some v→vr G w v (us q))→(∀q,us' q=us q∨Kin (us q) (us' q))→∃y:α,Sh y x∧∀q v,(cells y)[q]? = some v→vr G w' v (us' q))
  {fr:Bool} {l:List α} {u:Value} (hv:vr G w (.sl fr sz (l.map cells)) u) (hch:Ch w w' ad u1) (h0:w.cell? ad=some u0) (hk:Kin u0 u1) :
  ∃l':List α,l'.length=l.length∧(∀i (h1:i < l'.length) (h2:i < l.length),Sh l'[i] l[i])∧vr G w' (.sl fr sz (l'.map cells)) u:=by
 have hrows:∀(l:List α),∀x∈l.map cells,x.length=sz:=fun l x hx=>by obtain⟨y,_,rfl⟩:=List.mem_map.1 hx;exact hsz y
 have hat:∀(l:List α) (i:Nat) (hi:i < l.length) (q:Nat) (v:V),(cells l[i])[q]? = some v→(l.map cells).flatten[i * sz + q]? = some v:=fun l i hi q v hq=>flatten_row (r:=cells l[i]) (hrows l) (by simp[hi]) q v hq
 have hfrom:∀(l:List α) (j:Nat) (v:V),(l.map cells).flatten[j]? = some v→∃(i:Nat) (hi:i < l.length) (q:Nat),q < sz∧j=i * sz + q∧(cells l[i])[q]? = some v:=by
  intro l j v hj
  have hjl:j < l.length * sz:=by
   have:=(List.getElem?_eq_some_iff.1 hj).1
   rwa [flatten_cells (hrows l),List.length_map]at this
  have hi:j / sz < l.length:=Nat.div_lt_of_lt_mul (by rw[Nat.mul_comm];exact hjl)
  have hq:j % sz < sz:=Nat.mod_lt _ h0z
  have e:j / sz * sz + j % sz=j:=by rw[Nat.mul_comm];exact Nat.div_add_mod j sz
  refine⟨j / sz,hi,j % sz,hq,e.symm,?_⟩
  have hlt:j % sz < (cells l[j / sz]).length:=by rw[hsz];exact hq
  have:=hat l (j / sz) hi (j % sz) _ (List.getElem?_eq_getElem hlt)
  rw[e,hj]at this
  rw[List.getElem?_eq_getElem hlt]
  exact this.symm
 cases hv with
 | sl _ _ _ A cap us hcap hm hA hrow hc hval=>
  cases A with
  | none=>
   have hl:l=[]:=by
    cases l with
    | nil=>rfl
    | cons x r=>obtain⟨_,h,_⟩:=hA (by simp);cases h
   subst hl
   exact⟨[],rfl,fun i h1=>by simp at h1,.sl fr sz [] none cap us (by simp) hm (fun h=>absurd rfl h) (by simp) (by simp) (by simp)⟩
  | some p=>
   let us':Nat→Value:=fun j=>if(⟨p.block,p.off + j,none⟩:Addr)=ad then u1 else us j
   have hkin:∀j v,(l.map cells).flatten[j]? = some v→us' j=us j∨Kin (us j) (us' j):=by
    intro j v hj
    by_cases he:(⟨p.block,p.off + j,none⟩:Addr)=ad
    ·right
     have h2:w.cell? ⟨p.block,p.off + j,none⟩=some (us j):=(hc j v hj p rfl).1
     rw[he,h0]at h2
     have h2:u0=us j:=Option.some.inj h2
     show Kin (us j) (if(⟨p.block,p.off + j,none⟩:Addr)=ad then u1 else us j)
     rw[if_pos he,← h2]
     exact hk
    ·left
     show(if(⟨p.block,p.off + j,none⟩:Addr)=ad then u1 else us j)=us j
     rw[if_neg he]
   have hex:∀i (hi:i < l.length),∃y:α,Sh y l[i]∧∀q v,(cells y)[q]? = some v→vr G w' v (us' (i * sz + q)):=by
    intro i hi
    obtain⟨y,h1,h2⟩:=hstep l[i] (fun q=>us (i * sz + q)) (fun q=>if q < sz then us' (i * sz + q)else us (i * sz + q)) (fun q v hq=>hval _ _ (hat l i hi q v hq)) (fun q=>by
     by_cases hq:q < sz
     ·simp only[hq,if_true]
      have hlt:q < (cells l[i]).length:=by rw[hsz];exact hq
      exact hkin _ _ (hat l i hi q _ (List.getElem?_eq_getElem hlt))
     ·left
      show(if q < sz then us' (i * sz + q)else us (i * sz + q))=us (i * sz + q)
      rw[if_neg hq])
    refine⟨y,h1,fun q v hq=>?_⟩
    have hlt:q < sz:=by rw[← hsz y];exact(List.getElem?_eq_some_iff.1 hq).1
    have:=h2 q v hq
    simpa only[hlt,if_true]using this
   let f:(i:Nat)→i < l.length→α:=fun i hi=>Classical.choose (hex i hi)
   have hf:∀i hi,Sh (f i hi) l[i]∧∀q v,(cells (f i hi))[q]? = some v→vr G w' v (us' (i * sz + q)):=fun i hi=>Classical.choose_spec (hex i hi)
   refine⟨List.ofFn fun i:Fin l.length=>f i.1 i.2,by simp,fun i h1 h2=>by simpa using(hf i h2).1,?_⟩
   have hl':(List.ofFn fun i:Fin l.length=>f i.1 i.2).length=l.length:=by simp
   have hlen:((List.ofFn fun i:Fin l.length=>f i.1 i.2).map cells).length=(l.map cells).length:=by simp
   have:=VR.sl (ι:=G.ι) (csz:=csz w') (imm:=imm G w') fr sz ((List.ofFn fun i:Fin l.length=>f i.1 i.2).map cells) (some p) cap us' (by rw[hlen];exact hcap) hm (fun h=>hA (fun e=>h (by
     have:l=[]:=by simpa using e
     subst this;rfl))) (hrows _) (fun j v hj a ha=>by
     cases ha
     obtain⟨i,hi,q,hq,rfl,_⟩:=hfrom _ j v hj
     have hi':i < l.length:=by rw[hl']at hi;exact hi
     have hlt:q < (cells l[i]).length:=by rw[hsz];exact hq
     exact imm_ch (hc _ _ (hat l i hi' q _ (List.getElem?_eq_getElem hlt)) p rfl) hch hk.one) (fun j v hj=>by
     obtain⟨i,hi,q,hq,rfl,hcq⟩:=hfrom _ j v hj
     have hi':i < l.length:=by rw[hl']at hi;exact hi
     rw[List.getElem_ofFn]at hcq
     exact(hf i hi').2 q v hcq)
   rw[hlen]at this
   exact this
theorem kin_u32 {n:UInt32} {a b:Value} (hv:vr G w (.int .u32 n.toNat) a) (h:b=a∨Kin a b):∃m:UInt32,vr G w' (.int .u32 m.toNat) b:=by
 have ha:=VR.int_iff.1 hv
 rcases h with rfl|h
 ·exact⟨n,by rw[ha];exact .int _ _⟩
 ·rcases h with⟨x,y,e1,e2⟩|⟨x,y,e1,e2⟩
  ·exact⟨y,by rw[e2];exact .int _ _⟩
  ·rw[ha]at e1;cases e1
theorem kin_u8 {n:UInt8} {a b:Value} (hv:vr G w (.int .u8 n.toNat) a) (h:b=a∨Kin a b):vr G w' (.int .u8 n.toNat) b:=by
 have ha:=VR.int_iff.1 hv
 rcases h with rfl|h
 ·rw[ha];exact .int _ _
 ·rcases h with⟨x,y,e1,e2⟩|⟨x,y,e1,e2⟩<;>(rw[ha]at e1;cases e1)
theorem kin_bool {n:Bool} {a b:Value} (hv:vr G w (.bool n) a) (h:b=a∨Kin a b):∃m:Bool,vr G w' (.bool m) b:=by
 have ha:=VR.bool_iff.1 hv
 rcases h with rfl|h
 ·exact⟨n,by rw[ha];exact .bool _⟩
 ·rcases h with⟨x,y,e1,e2⟩|⟨x,y,e1,e2⟩
  ·rw[ha]at e1;cases e1
  ·exact⟨y,by rw[e2];exact .bool _⟩
theorem kin_sl {fr:Bool} {sz:Nat} {xs:List (List V)} {a b:Value} (hv:vr G w (.sl fr sz xs) a) (h:b=a∨Kin a b):b=a:=by
 rcases h with rfl|h
 ·rfl
 ·rcases h with⟨x,y,e1,e2⟩|⟨x,y,e1,e2⟩<;>(rw[e1]at hv;cases hv)
structure ShC (y x:Change):Prop where
 legs:Alike y.attrs.path x.attrs.path
 tags:y.attrs.tags.length=x.attrs.tags.length
end
end
section
open Go.Proofs.Tryz (prog)
attribute [local irreducible] CallV RoundV VC VH
def ShL (l x:List Change):Prop:=x.length=l.length∧∀i (h1:i < x.length) (h2:i < l.length),ShC x[i] l[i]
theorem ShL.refl (l:List Change):ShL l l:=⟨rfl,fun i h1 h2=>⟨rfl,rfl⟩⟩
theorem ShL.trans {a b c:List Change} (h:ShL a b) (k:ShL b c):ShL a c:=⟨k.1.trans h.1,fun i h1 h2=>by
 have h3:i < b.length:=by rw[h.1];exact h2
 exact⟨(k.2 i h1 h3).legs.trans (h.2 i h3 h2).legs,(k.2 i h1 h3).tags.trans (h.2 i h3 h2).tags⟩⟩
end
section
open Go.Proofs.Tryz (prog)
attribute [local irreducible] CallV RoundV aggK
def ten24:Prefix:=⟨167772160,8⟩
def pe2:Peer:=⟨2,2,2,false⟩
def polE:Policy:=⟨[],true⟩
theorem rise1_24 {p:Prefix} (h:prefOk p=true):riseP [p]=true:=riseP_iff.2 fun j hj=>by
 obtain rfl:j=0:=by simp at hj;omega
 exact⟨h,fun h0=>absurd h0 (by omega)⟩
theorem rise0_24:riseP []=true:=riseP_iff.2 fun j hj=>by simp at hj
theorem sortPs_self {l:List Prefix} (h:l.Pairwise (fun x y=>pkey x≤pkey y)):sortPs l=l:=sorted_eq (List.mergeSort_perm _ _) (sortPs_sorted l) h
end
section
open Go.Proofs.Tryz (prog)
attribute [local irreducible] CallV RoundV aggK
instance {a:Attrs}:Decidable (smallA a):=inferInstanceAs (Decidable (_∧_∧_))
instance {m:List (Prefix × Attrs)}:Decidable (NodE m):=inferInstanceAs (Decidable (List.Nodup _))
end
section
open Go.ChangeShapes Go.WideShapes
open Go.Proofs.Tryz (prog)
theorem rep_peer:RepOk prog 26 cellsPe:=fun enc w sp fuel cs x h=>by
 have ht:=Go.Proofs.Tryz.underlying26
 obtain⟨xs,n,_,_,hlen,_,_⟩:=DataW.trod_struct ht h
 have hl:cs.length=4:=hlen.trans (by kernel_rfl)
 obtain⟨a,h0,o0⟩:=field_at ht h 0 rfl (rep_u32 Go.Proofs.Tryz.underlying22) rfl (by kernel_rfl)
 obtain⟨b,h1,o1⟩:=field_at ht h 1 rfl (rep_u32 Go.Proofs.Tryz.underlying22) rfl (by kernel_rfl)
 obtain⟨c,h2,o2⟩:=field_at ht h 2 rfl (rep_u32 Go.Proofs.Tryz.underlying22) rfl (by kernel_rfl)
 obtain⟨d,h3,o3⟩:=field_at ht h 3 rfl (rep_bool Go.Proofs.Tryz.underlying4) rfl (by kernel_rfl)
 have j1:=vrs_join (vrs_join (vrs_join (vrs_join vrs_take0 h0 rfl (by omega)) h1 rfl (by omega)) h2 rfl (by omega)) h3 rfl (by omega)
 have k1:=one_join (one_join (one_join (one_join (by simp) o0 rfl (by omega)) o1 rfl (by omega)) o2 rfl (by omega)) o3 rfl (by omega)
 rw[List.take_of_length_le (by omega)]at j1 k1
 exact⟨⟨a,b,c,d⟩,j1,k1⟩
theorem arg_peer:ArgOk prog 26 encPe:=arg_struct Go.Proofs.Tryz.underlying26 rep_peer
theorem read_peer:prog.readableRec 26=true∧26 < prog.types.size:=⟨by kernel_rfl,of_decide_eq_true (by kernel_rfl)⟩
end
section
open Go.Proofs.Tryz (prog)
attribute [local irreducible] CallV RoundV aggK
theorem said_ne {a b:List (Prefix × Attrs)} {i:Nat} (h1:i < a.length) (h2:i < b.length) (h:a[i] ≠ b[i]):a ≠ b:=fun e=>by subst e;exact h rfl
end
section
open Go.Proofs.Tryz (prog)
attribute [local irreducible] CallV RoundV aggK
def pfN (n:Nat):Prefix:=⟨UInt32.ofNat n,32⟩
theorem wrap32n (n:Nat):IntKind.u32.wrap (n:Int)=((UInt32.ofNat n).toNat:Int):=by
 simp[IntKind.wrap,IntKind.bits,IntKind.signed]
end
section
open Go.Proofs.Tryz (prog)
attribute [local irreducible] CallV RoundV aggK
def laidC (l:List Change) (c:Change):List Change:=l.filter (fun x=>!decide (x.pfx=c.pfx))++ (if c.has then [c]else [])
def laidsC (l d:List Change):List Change:=d.foldl laidC l
abbrev pairC (l:List Change):List (Prefix × Attrs):=l.map fun c=>(c.pfx,c.attrs)
theorem pair_laid (l:List Change) (c:Change):pairC (laidC l c)=delE (pairC l) c.pfx ++ (if c.has then [(c.pfx,c.attrs)]else []):=by
 unfold pairC laidC delE
 rw[List.map_append,List.filter_map]
 congr 1
 split<;>rfl
theorem getE_app {α:Type} (l l':List (Prefix × α)) (q:Prefix):getE (l ++ l') q=(getE l q).or (getE l' q):=by
 unfold getE
 rw[List.find?_append]
 cases l.find? (fun e=>decide (e.1=q))<;>simp
theorem get_laid (l:List Change) (c:Change) (q:Prefix):getE (pairC (laidC l c)) q=if q=c.pfx then(if c.has then some c.attrs else none)else getE (pairC l) q:=by
 rw[pair_laid,getE_app,getE_del]
 by_cases hq:q=c.pfx
 ·rw[if_pos hq,if_pos hq]
  subst hq
  cases c.has<;>simp[getE]
 ·rw[if_neg hq,if_neg hq]
  have h2:getE (if c.has then [(c.pfx,c.attrs)]else []) q=none:=by
   cases c.has with
   | false=>rfl
   | true=>simp[getE,Ne.symm hq]
  rw[h2]
  cases getE (pairC l) q<;>rfl
theorem nod_laid {l:List Change} (h:NodE (pairC l)) (c:Change):NodE (pairC (laidC l c)):=by
 rw[pair_laid]
 unfold NodE keysE
 rw[List.map_append]
 refine List.nodup_append.2 ⟨nod_del h,by split<;>simp,fun a ha b hb e=>?_⟩
 subst e
 have h1:=(keys_del (l:=pairC l)).1 ha
 split at hb
 ·simp at hb;exact h1.1 hb
 ·simp at hb
theorem nod_laids:∀{d l:List Change},NodE (pairC l)→NodE (pairC (laidsC l d))
 | [],_,h=>h
 | c :: d,_,h=>nod_laids (d:=d) (nod_laid h c)
theorem get_laids {z:Attrs} {f g:Prefix→Option Attrs}:∀(ks:List Prefix) (l:List Change) (q:Prefix),getE (pairC (laidsC l (ks.filterMap (chg z f g)))) q=if q∈ks∧f q ≠ g q then g q else getE (pairC l) q
 | [],l,q=>by simp[laidsC]
 | p :: ks,l,q=>by
  by_cases hp:f p=g p
  ·rw[List.filterMap_cons,show chg z f g p=none from if_pos hp]
   have:=get_laids (z:=z) (f:=f) (g:=g) ks l q
   rw[this]
   by_cases hq:q∈ks∧f q ≠ g q
   ·rw[if_pos hq,if_pos ⟨List.mem_cons_of_mem _ hq.1,hq.2⟩]
   ·rw[if_neg hq,if_neg]
    rintro ⟨h1,h2⟩
    rcases List.mem_cons.1 h1 with rfl|h1
    ·exact h2 hp
    ·exact hq ⟨h1,h2⟩
  ·rw[List.filterMap_cons,show chg z f g p=some ⟨p,(g p).isSome,(g p).getD z⟩from if_neg hp]
   have:=get_laids (z:=z) (f:=f) (g:=g) ks (laidC l ⟨p,(g p).isSome,(g p).getD z⟩) q
   show getE (pairC (laidsC (laidC l ⟨p,(g p).isSome,(g p).getD z⟩) (ks.filterMap (chg z f g)))) q=_
   rw[this,get_laid]
   by_cases hq:q=p
   ·subst hq
    have e1:q∈q :: ks∧f q ≠ g q:=⟨List.mem_cons_self,hp⟩
    rw[if_pos e1,if_pos rfl]
    split
    ·rfl
    ·cases g q<;>rfl
   ·rw[if_neg hq]
    by_cases h:q∈ks∧f q ≠ g q
    ·rw[if_pos h,if_pos ⟨List.mem_cons_of_mem _ h.1,h.2⟩]
    ·rw[if_neg h,if_neg]
     rintro ⟨h1,h2⟩
     rcases List.mem_cons.1 h1 with rfl|h1
     ·exact hq rfl
     ·exact h ⟨h1,h2⟩
def cntAt (own:UInt32) (pe:Peer) (pol:Policy) (m:List (Prefix × Attrs)) (q:Prefix):Option Attrs:=(getE m q).bind (cnt own pe pol q)
theorem cntAt_key {own:UInt32} {pe:Peer} {pol:Policy} {m:List (Prefix × Attrs)} {q:Prefix} (h:cntAt own pe pol m q ≠ none):q∈keysE m∧prefOk q=true:=by
 unfold cntAt at h
 cases hx:getE m q with
 | none=>rw[hx]at h;exact absurd rfl h
 | some a=>
  rw[hx]at h
  cases hcc:cnt own pe pol q a with
  | none=>exact absurd hcc h
  | some b=>exact⟨getE_key hx,cnt_pref hcc⟩
theorem laid_chgs {own:UInt32} {pe:Peer} {pol:Policy} {m n:List (Prefix × Attrs)} {l:List Change} (h:∀q,getE (pairC l) q=cntAt own pe pol m q) (q:Prefix):getE (pairC (laidsC l (chgs own pe pol pol m n))) q=cntAt own pe pol n q:=by
 unfold chgs
 rw[get_laids]
 by_cases he:cntAt own pe pol m q=cntAt own pe pol n q
 ·rw[if_neg (fun hh=>hh.2 he),h,he]
 ·rw[if_pos]
  ·rfl
  refine⟨mem_sortPs.2 ?_,he⟩
  by_cases hm:cntAt own pe pol m q=none
  ·obtain⟨h1,h2⟩:=cntAt_key (m:=n) (q:=q) (fun e=>he (hm.trans e.symm))
   exact mem_dd (by simp[h1]) h2
  ·obtain⟨h1,h2⟩:=cntAt_key hm
   exact mem_dd (by simp[h1]) h2
theorem cnt_seen {own:UInt32} {pe:Peer} {pol:Policy} {m:List (Prefix × Attrs)} {l:List Change} (hn:NodE m) (hl:NodE (pairC l)) (h:∀q,getE (pairC l) q=cntAt own pe pol m q):((sortPs (keysE m)).filter fun q=>(cntAt own pe pol m q).isSome).length=l.length:=by
 have h1:(sortPs (keysE m)).Nodup:=(List.mergeSort_perm _ _).nodup_iff.2 hn
 have hp:((sortPs (keysE m)).filter fun q=>(cntAt own pe pol m q).isSome).Perm (keysE (pairC l)):=by
  refine(List.perm_ext_iff_of_nodup (h1.filter _) hl).2 fun q=>?_
  rw[List.mem_filter,mem_sortPs]
  constructor
  ·rintro ⟨_,h3⟩
   rw[← h]at h3
   obtain⟨a,ha⟩:=Option.isSome_iff_exists.1 h3
   exact getE_key ha
  ·intro hk
   obtain⟨a,ha⟩:=key_getE hk
   rw[h]at ha
   exact⟨(cntAt_key (by rw[ha];simp)).1,by rw[ha];rfl⟩
 rw[hp.length_eq]
 simp[keysE]
end
section
open Go.Proofs.Tryz (prog)
attribute [local irreducible] CallV RoundV aggK
theorem bodyB_parts (u:Upd):(bodyB u).length=4 + (prefsB u.gone).length + (aA u.attrs).length + (prefsB u.new).length:=by
 simp only[bodyB,partsU,gB,aB,List.flatten_cons,List.flatten_nil,List.length_append,List.append_nil,twoB,List.length_cons,List.length_nil]
 omega
theorem checkU_zero {u:Upd} (h:checkU u=0):mayU u=true∧(bodyB u).length≤493:=by
 unfold checkU at h
 split at h
 ·rename_i hm
  split at h
  ·cases h
  ·exact⟨hm,by omega⟩
 ·cases h
structure AddsI (pe:Peer) (pol:Policy) (m:List (Prefix × Attrs)) (l:List Change):Prop where
 ok:okM 1 pe pol m
 few:m.length≤64
 cnt:∀q,getE (pairC l) q=cntAt 1 pe pol m q
 nod:NodE (pairC l)
theorem AddsI.len {pe:Peer} {pol:Policy} {m:List (Prefix × Attrs)} {l:List Change} (h:AddsI pe pol m l):l.length≤64:=by
 have:=cnt_seen h.ok.1 h.nod h.cnt
 have h2:=List.length_filter_le (fun q=>(cntAt 1 pe pol m q).isSome) (sortPs (keysE m))
 have h3:(sortPs (keysE m)).length=m.length:=by rw[sortPs_len,keysE_len]
 have:=h.few
 omega
theorem AddsI.nil {pe:Peer} {pol:Policy}:AddsI pe pol [] []:=⟨okM_nil _ _ _,by simp,fun q=>rfl,by simp[NodE,keysE]⟩
theorem AddsI.take {pe:Peer} {pol:Policy} {m:List (Prefix × Attrs)} {l:List Change} (h:AddsI pe pol m l) {g n:List Prefix} {a:Attrs} (ha:smallA a) (h64:¬ 64 < (takeM m g n a).length):AddsI pe pol (takeM m g n a) (laidsC l (chgs 1 pe pol pol m (takeM m g n a))):=
 ⟨okM_of (nod_take h.ok.1) (by omega) (take_small (fun e he=>(h.ok.2.2 e he).1) ha),by omega,laid_chgs h.cnt,nod_laids h.nod⟩
end
end Go.Proofs.YteogfjpaljbkoaaGreat
