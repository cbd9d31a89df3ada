/- What closed calls yield, told by the evaluator. No condition. -/
import Derived.Test.YtjeiboididfgmaaGreatDoorRE
set_option maxRecDepth 100000
namespace Go.V
open Go
theorem told_f3:yields C0 3000 14 [.agg [.int 99,.int 0,.str ⟨#[]⟩,.str ⟨#[]⟩,.nil0,.nil0,.nil0]] (.tup [.nil0,.int 1])=true:=by kernel_rfl
theorem told_f4:yields C0 3000 17 [.agg [.int 13,.int 0,.str ⟨#[104]⟩,.str ⟨#[97,115,107]⟩,.nil0,.list [.agg [.int 0,.int 0,.str ⟨#[120]⟩,.str ⟨#[]⟩,.nil0,.nil0,.nil0]],.nil0]] (.tup [.list [.str ⟨#[104]⟩],.int 0])=true:=by kernel_rfl
theorem told_f5:yields C0 3000 22 [.agg [.int 4,.int 0,.str ⟨#[]⟩,.str ⟨#[]⟩,.list [.str ⟨#[121]⟩],.list [.agg [.int 5,.int 0,.str ⟨#[]⟩,.str ⟨#[]⟩,.nil0,.list [.agg [.int 0,.int 0,.str ⟨#[120]⟩,.str ⟨#[]⟩,.nil0,.nil0,.nil0],.agg [.int 0,.int 0,.str ⟨#[121]⟩,.str ⟨#[]⟩,.nil0,.nil0,.nil0]],.nil0]],.nil0]] (.tup [.list [.str ⟨#[120]⟩,.str ⟨#[121]⟩],.int 0])=true:=by kernel_rfl
end Go.V
