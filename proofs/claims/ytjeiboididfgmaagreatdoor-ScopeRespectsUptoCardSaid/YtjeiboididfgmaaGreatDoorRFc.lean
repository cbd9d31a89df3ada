/- What closed calls yield, told by the evaluator. No condition. -/
import Derived.Test.YtjeiboididfgmaaGreatDoorRE
set_option maxRecDepth 100000
namespace Go.V
open Go
theorem told_f6:yields C0 3000 22 [.agg [.int 6,.int 0,.str ⟨#[]⟩,.str ⟨#[]⟩,.list [.str ⟨#[120]⟩],.list [.agg [.int 0,.int 0,.str ⟨#[120]⟩,.str ⟨#[]⟩,.nil0,.nil0,.nil0],.agg [.int 0,.int 0,.str ⟨#[120]⟩,.str ⟨#[]⟩,.nil0,.nil0,.nil0]],.nil0]] (.tup [.list [.str ⟨#[120]⟩],.int 0])=true:=by kernel_rfl
theorem told_f7:yields C0 3000 19 [.agg [.int 4,.int 0,.str ⟨#[]⟩,.str ⟨#[]⟩,.list [.str ⟨#[120]⟩],.list [.agg [.int 0,.int 0,.str ⟨#[120]⟩,.str ⟨#[]⟩,.nil0,.nil0,.nil0]],.nil0]] (.tup [.bool true,.int 0])=true:=by kernel_rfl
theorem told_f8:yields C0 3000 24 [.agg [.int 4,.int 0,.str ⟨#[]⟩,.str ⟨#[]⟩,.list [.str ⟨#[121]⟩],.list [.agg [.int 5,.int 0,.str ⟨#[]⟩,.str ⟨#[]⟩,.nil0,.list [.agg [.int 0,.int 0,.str ⟨#[120]⟩,.str ⟨#[]⟩,.nil0,.nil0,.nil0],.agg [.int 0,.int 0,.str ⟨#[121]⟩,.str ⟨#[]⟩,.nil0,.nil0,.nil0]],.nil0]],.nil0],.str ⟨#[120]⟩] (.tup [.int 1,.int 0])=true:=by kernel_rfl
end Go.V
